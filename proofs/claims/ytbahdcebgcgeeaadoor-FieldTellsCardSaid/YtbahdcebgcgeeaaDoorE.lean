/- The contract of field.Back. -/
import Derived.Test.YtbahdcebgcgeeaaDoorD
namespace Go.Proofs.YtbahdcebgcgeeaaDoor
open Go.RowKit

theorem run_index_bytes (t n : Nat) (hu : Tryd.prog.underlying t = some (.array n 5)) (cs : Array Value) (i : Nat) (v : Value) (hi : i < n) (hv : cs[i]? = some v) (k : IntKind) (w : World) :
    (Instr.index t (.agg cs) (.int k (i : Int))).run Tryd.prog w = .ok v w := by
  simp [Instr.index, asIntOf, run_underlying hu, Sem.run_bind, hi, part, Tryd.isAgg5, Tryd.sizeOf5, hv, Sem.run_pure]

/-- The array as the first k rounds leave it. -/
def backC : Nat → Array Value
  | 0 => zeroA 256
  | k + 1 => (backC k).setIfInBounds (bx k) (.int .u8 (k : Int))
theorem backC_size (k : Nat) : (backC k).size = 256 := by
  induction k with
  | zero => exact zeroA_size 256
  | succ k ih => simp [backC, ih]
theorem all_set {cs : Array Value} {i : Nat} {v : Value} (h : cs.all (·.oneCell') = true) (hv : v.oneCell' = true) : (cs.setIfInBounds i v).all (·.oneCell') = true := by
  refine Array.all_eq_true_iff_forall_mem.2 fun x hx => ?_
  rcases Array.mem_or_eq_of_mem_setIfInBounds hx with h1 | h1
  · exact Array.all_eq_true_iff_forall_mem.1 h x h1
  · subst h1; exact hv
theorem backC_one (k : Nat) : (backC k).all (·.oneCell') = true := by
  induction k with
  | zero =>
    refine Array.all_eq_true_iff_forall_mem.2 fun x hx => ?_
    have h : x ∈ Array.replicate 256 (Value.int .u8 0) := hx
    rw [Array.mem_replicate] at h
    rw [h.2]
    rfl
  | succ k ih => exact all_set ih rfl

/-- A row stored into itself: nothing turns. -/
theorem setRow_self (w : World) (g : Nat) (cs : Array Value) (t : TypeId) (fr : Nat × Nat) (hg : w.heap[g]? = some (.cells cs t fr)) : w.setRow g cs = w := by
  cases w with
  | mk heap tape drawn os output =>
    unfold World.setRow
    congr 1
    apply Array.ext_getElem?
    intro i
    rw [Array.getElem?_modify]
    split
    · rename_i h
      subst h
      simp only at hg
      rw [hg]; rfl
    · rfl
theorem bx_lt : ∀ i, i < 256 → bx i < 256 := by decide +kernel
theorem boxA_at : ∀ i, i < 256 → boxA[i]? = some (.int .u8 (bx i : Int)) := by
  intro i hi
  have : boxL.length = 256 := by decide +kernel
  simp [boxA, bx, List.getElem?_eq_getElem (show i < boxL.length by omega)]

set_option maxRecDepth 100000 in
theorem back_any (w : World) :
    Calls Tryd.prog 13 #[] w fun e w' => e = .returned (.agg (backC 256)) ∧ Below w.heap.size w w' := by
  have hz := zero28
  go_enter Tryd.func13, Tryd.ntmps13
  go_wp2_with (go_at_call 12; refine (box_any _).mono ?_; rintro e w' ⟨rfl, hb⟩)
  have hg : w'.heap[w.heap.size]? = some (.cells (zeroA 256) 28 (0, 0)) := (hb.block w.heap.size (by simp)).trans (heap_alloc_new w _)
  have hB : Below w.heap.size w w' := ((Below.refl _ w).alloc (Nat.le_refl _) _).trans (hb.mono (by simp))
  clear hb
  go_loopw [4] (fun i wr => ∃ k : Nat, k ≤ 256 ∧ i = .int .i64 (k : Int) ∧ wr.heap[w.heap.size]? = some (.cells (backC k) 28 (0, 0)) ∧ Below w.heap.size w wr) (fun i _ => 256 - (intOf i).toNat)
  case atStart => exact ⟨0, by omega, rfl, hg, hB⟩
  case round =>
    obtain ⟨k, hk, rfl, hg, hB⟩ := hrel
    by_cases hlt : k < 256
    · have hix := run_index_bytes 28 256 Tryd.underlying28 boxA k _ hlt (boxA_at k hlt) .i64
      have hbl := bx_lt k hlt
      have hc : wr.cell? ⟨w.heap.size, bx k, none⟩ = some ((backC k).getD (bx k) undef) := by
        rw [cell_of_row _ _ _ _ _ _ hg]; simp [backC_size, hbl]
      have hf := frozen_of_row _ _ (bx k) _ _ hg
      have HG := Lib.hid hg
      clear hg
      go_wp2
      go_roundw
      case rel => exact ⟨k + 1, by omega, by go_num, by rw [heap_setCell_same _ _ _ _ _ _ HG.out]; rfl, hB.setCell (Nat.le_refl _) _⟩
      case measure => simp [intOf]; omega
    · obtain rfl : k = 256 := by omega
      have hi : (Tryd.prog.info? 28).map (·.size) = some (backC 256).size := by rw [backC_size]; exact size28
      have HG := Lib.hid hg
      clear hg
      go_wp2_with (first | (refine wpList_load_row rfl 28 _ rfl w.heap.size rfl 28 (backC 256) (0, 0) _ HG.out Tryd.underlying28 rfl hi ?_) | (refine wpList_store_row rfl 28 _ _ rfl w.heap.size (backC 256) rfl rfl 28 (backC 256) HG.out hi rfl (backC_one 256) ?_; rw [setRow_self _ _ _ _ _ HG.out]))
      exact bodyPost_ret (results_cell_row rfl _ _ w.heap.size 28 (backC 256) (0, 0) _ rfl HG.out Tryd.underlying28 rfl hi) rfl ⟨rfl, hB⟩

end Go.Proofs.YtbahdcebgcgeeaaDoor
