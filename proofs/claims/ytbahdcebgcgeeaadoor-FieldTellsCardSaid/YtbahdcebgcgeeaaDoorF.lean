/- The contract of the law's own closed part: the document's examples, which answer true in every world that holds the library's table. -/
import Derived.Test.YtbahdcebgcgeeaaDoorB
import Derived.Test.YtbahdcebgcgeeaaDoorC
import Derived.Test.YtbahdcebgcgeeaaDoorE
namespace Go.Proofs.YtbahdcebgcgeeaaDoor
open Go.RowKit

theorem backC_eq : backC 256 = (backL.map fun x : Nat => Value.int .u8 (x : Int)).toArray := by kernel_rfl
theorem backC_at : ∀ i, i < 256 → (backC 256)[i]? = some (.int .u8 (bk i : Int)) := by
  intro i hi
  have : backL.length = 256 := by decide +kernel
  simp [backC_eq, bk, List.getElem?_eq_getElem (show i < backL.length by omega)]
theorem bk_lt : ∀ i, i < 256 → bk i < 256 := by decide +kernel

theorem TabAt.below {w w' : World} (h : TabAt w) (hb : Below w.heap.size w w') : TabAt w' := fun j hj => by
  have h0 := h j hj
  rw [← h0]
  exact hb.cell (block_lt_of_cell h0)
theorem TabAt.alloc {w : World} (h : TabAt w) (o : Obj) : TabAt (w.alloc o) := h.below ((Below.refl _ w).alloc (Nat.le_refl _) o)

theorem clmul_wake (w : World) (hT : TabAt w) :
    Calls Tryd.prog 14 #[.int .u64 3, .int .u64 9223372036854775808] w fun e w' => e = .returned (.tuple #[.int .u64 9223372036854775808, .int .u64 1]) ∧ w = w' := by
  have h := clmul_any 3 9223372036854775808 (by decide) (by decide) w hT
  have h1 : lo (clm 3 9223372036854775808) = 9223372036854775808 := by decide +kernel
  have h2 : hi (clm 3 9223372036854775808) = 1 := by decide +kernel
  rw [h1, h2] at h
  exact h
theorem mul_wake (w : World) : Calls Tryd.prog 9 #[.int .u8 87, .int .u8 131] w fun e w' => e = .returned (.int .u8 193) ∧ w = w' := by
  have h := mul_any 87 131 (by decide) (by decide) w
  have h1 : gmul 87 131 = 193 := by decide +kernel
  rw [h1] at h
  exact h

set_option maxRecDepth 100000 in
theorem wakes_any (w : World) (hT : TabAt w) :
    Calls Tryd.prog 11 #[] w fun e w' => e = .returned (.bool true) ∧ Below w.heap.size w w' := by
  have hz := zero28
  have hix : ∀ w, (Instr.index 28 (.agg (backC 256)) (.int .i64 99)).run Tryd.prog w = .ok (.int .u8 0) w := run_index_bytes 28 256 Tryd.underlying28 (backC 256) 99 _ (by decide) (by rw [backC_at 99 (by decide)]; rfl) .i64
  go_enter Tryd.func11, Tryd.ntmps11
  go_wp2_with (first | (go_at_call 12; refine (box_any _).mono ?_; rintro e w1 ⟨rfl, hb⟩) | (refine wpList_store_new rfl 28 _ _ rfl (zeroA 256) boxA rfl rfl size28b zeroA_boxA boxA_one ?_))
  have hT1 : TabAt (w1.alloc (.cells boxA 28)) := (hT.below hb).alloc _
  have hB1 : Below w.heap.size w (w1.alloc (.cells boxA 28)) := hb.alloc hb.size _
  have HT := Lib.hid hT1
  clear hT hT1
  have h0 : (w1.alloc (.cells boxA 28)).cell? ⟨w1.heap.size, 0, none⟩ = some (.int .u8 99) := by
    rw [cell_of_row _ _ _ _ _ _ (heap_alloc_new w1 _), boxA_at 0 (by decide)]; rfl
  have h1 : (w1.alloc (.cells boxA 28)).cell? ⟨w1.heap.size, 1, none⟩ = some (.int .u8 124) := by
    rw [cell_of_row _ _ _ _ _ _ (heap_alloc_new w1 _), boxA_at 1 (by decide)]; rfl
  go_wp2_with (first | (go_at_call 10; refine (inv_zero _).mono ?_; rintro e w' ⟨rfl, rfl⟩) | (go_at_call 14; refine (clmul_wake _ HT.out).mono ?_; rintro e w' ⟨rfl, rfl⟩) | (go_at_call 9; refine (mul_wake _).mono ?_; rintro e w' ⟨rfl, rfl⟩) | (go_at_call 13; refine (back_any _).mono ?_; rintro e w2 ⟨rfl, hb2⟩))
  go_ret
  exact ⟨rfl, hB1.trans (hb2.mono hB1.size)⟩

end Go.Proofs.YtbahdcebgcgeeaaDoor
