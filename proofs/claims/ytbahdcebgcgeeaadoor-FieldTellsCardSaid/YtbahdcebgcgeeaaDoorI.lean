/- The contracts of field.Mix and of the function that leaves a column as it is. -/
import Derived.Test.YtbahdcebgcgeeaaDoorH
namespace Go.Proofs.YtbahdcebgcgeeaaDoor
open Go.RowKit

/-- A column mixed, as the program mixes it. -/
def mixF (c : Nat → Nat) (i : Nat) : Nat := (c i ^^^ (c 0 ^^^ c 1 ^^^ c 2 ^^^ c 3)) ^^^ dbl (c i ^^^ c ((i + 1) % 4))
theorem mixF_lt (c : Nat → Nat) (hc : ∀ i, c i < 256) (i : Nat) : mixF c i < 256 :=
  xor_lt (xor_lt (hc i) (xor_lt (xor_lt (xor_lt (hc 0) (hc 1)) (hc 2)) (hc 3))) (dbl_lt _)
def mixU (c : Nat → Nat) (k : Nat) : Nat → Nat := fun j => if j < k then mixF c j else 0

theorem mixU_step (c : Nat → Nat) (k q : Nat) (hq : (k + 1) % 4 = q) (i : Nat) (_ : i < 4) :
    upd (mixU c k) k (c k ^^^ (c 0 ^^^ c 1 ^^^ c 2 ^^^ c 3) ^^^ dbl (c k ^^^ c q)) i = mixU c (k + 1) i := by
  subst hq
  unfold upd mixU mixF
  by_cases h : i = k
  · subst h; simp
  · have h2 : i < k + 1 ↔ i < k := by omega
    simp [h, h2]

set_option maxRecDepth 100000 in
set_option maxHeartbeats 400000 in
theorem mix_any (c : Nat → Nat) (hc : ∀ i, c i < 256) (w : World) :
    Calls Tryd.prog 18 #[.agg (arr 4 c)] w fun e w' => e = .returned (.agg (arr 4 (mixF c))) ∧ Below w.heap.size w w' := by
  have hz := zero37
  have hA : Blk ((w.alloc (.cells (arr 4 c) 37)).alloc (.cells (arr 4 fun _ => 0) 37)) w.heap.size 37 4 c := (Blk.new w 37 4 c).alloc _
  have hM : Blk ((w.alloc (.cells (arr 4 c) 37)).alloc (.cells (arr 4 fun _ => 0) 37)) (w.heap.size + 1) 37 4 (fun _ => 0) := by
    have := Blk.new (w.alloc (.cells (arr 4 c) 37)) 37 4 (fun _ => 0)
    rwa [World.size_alloc] at this
  have hB : Below w.heap.size w ((w.alloc (.cells (arr 4 c) 37)).alloc (.cells (arr 4 fun _ => 0) 37)) := ((Below.refl _ w).alloc (Nat.le_refl _) _).alloc (by simp) _
  have c0 := hA.cell 0 (by decide)
  have c1 := hA.cell 1 (by decide)
  have c2 := hA.cell 2 (by decide)
  have c3 := hA.cell 3 (by decide)
  have x1 := u8_xor_nat (c 0) (c 1) (hc 0) (hc 1)
  have x2 := u8_xor_nat (c 0 ^^^ c 1) (c 2) (xor_lt (hc 0) (hc 1)) (hc 2)
  have x3 := u8_xor_nat (c 0 ^^^ c 1 ^^^ c 2) (c 3) (xor_lt (xor_lt (hc 0) (hc 1)) (hc 2)) (hc 3)
  have HC := Lib.hid hc
  have HA := Lib.hid hA
  have HM := Lib.hid hM
  have HB := Lib.hid hB
  clear hc hA hM hB
  go_enter Tryd.func18, Tryd.ntmps18
  go_wp2_with (refine wpList_load_row rfl 37 _ rfl w.heap.size rfl 37 (arr 4 c) (0, 0) _ HA.out Tryd.underlying37 rfl (size37 c) ?_)
  clear c0 c1 c2 c3 x1 x2 x3 hz
  go_loopw [18] (fun i wr => ∃ k : Nat, k ≤ 4 ∧ i = .int .i64 (k : Int) ∧ Blk wr w.heap.size 37 4 c ∧ Blk wr (w.heap.size + 1) 37 4 (mixU c k) ∧ Below w.heap.size w wr) (fun i _ => 4 - (intOf i).toNat)
  case atStart => exact ⟨0, by omega, rfl, HA.out, HM.out.congr (fun i _ => by simp [mixU]), HB.out⟩
  case round =>
    obtain ⟨k, hk, rfl, hA, hM, hB⟩ := hrel
    by_cases hlt : k < 4
    · obtain ⟨q, hq, hq4⟩ : ∃ q, (k + 1) % 4 = q ∧ q < 4 := ⟨_, rfl, Nat.mod_lt _ (by decide)⟩
      have hi : ((k : Int) + 1) % 4 = (q : Int) := by omega
      have hix := run_index_bytes 37 4 Tryd.underlying37 (arr 4 c) k _ hlt (arr_at 4 c k hlt) .i64
      have hc1 := hA.cell q hq4
      have hc2 := hM.cell k hlt
      have hf2 := hM.frozen k
      have hck := HC.out k
      have hcq := HC.out q
      have x1 := u8_xor_nat (c k) (c 0 ^^^ c 1 ^^^ c 2 ^^^ c 3) hck (xor_lt (xor_lt (xor_lt (HC.out 0) (HC.out 1)) (HC.out 2)) (HC.out 3))
      have x2 := u8_xor_nat (c k) (c q) hck hcq
      have x3 := u8_xor_nat (c k ^^^ (c 0 ^^^ c 1 ^^^ c 2 ^^^ c 3)) (dbl (c k ^^^ c q)) (xor_lt hck (xor_lt (xor_lt (xor_lt (HC.out 0) (HC.out 1)) (HC.out 2)) (HC.out 3))) (dbl_lt _)
      have HQ := Lib.hid hq
      have HA2 := Lib.hid hA
      have HM2 := Lib.hid hM
      have HB2 := Lib.hid hB
      clear hq hA hM hB
      go_wp2_with (go_at_call 26; refine (double_any _ _).mono ?_; rintro e w' ⟨rfl, rfl⟩)
      go_roundw
      case rel => exact ⟨k + 1, by omega, by go_num, HA2.out.other _ _ (by simp), (HM2.out.set k _).congr (mixU_step c k q HQ.out), HB2.out.setCell (by simp) _⟩
      case measure => simp [intOf]; omega
    · obtain rfl : k = 4 := by omega
      have HM2 := Lib.hid hM
      have HB2 := Lib.hid hB
      clear hA hM hB
      go_wp2_with (first | (refine wpList_load_row rfl 37 _ rfl (w.heap.size + 1) rfl 37 (arr 4 (mixU c 4)) (0, 0) _ HM2.out Tryd.underlying37 rfl (size37 _) ?_) | (refine wpList_store_row rfl 37 _ _ rfl (w.heap.size + 1) (arr 4 (mixU c 4)) rfl rfl 37 (arr 4 (mixU c 4)) HM2.out (size37 _) rfl (arr_one _ _) ?_; rw [setRow_self _ _ _ _ _ HM2.out]))
      refine bodyPost_ret (results_cell_row rfl _ _ (w.heap.size + 1) 37 (arr 4 (mixU c 4)) (0, 0) _ rfl HM2.out Tryd.underlying37 rfl (size37 _)) rfl ⟨?_, HB2.out⟩
      rw [arr_congr (fun i hi => show mixU c 4 i = mixF c i by simp [mixU, hi])]

/-- What leaves a column as it is. -/
theorem same_any (c : Nat → Nat) (w : World) :
    Calls Tryd.prog 32 #[.agg (arr 4 c)] w fun e w' => e = .returned (.agg (arr 4 c)) ∧ Below w.heap.size w w' := by
  have hz := zero37
  have hA : Blk ((w.alloc (.cells (arr 4 c) 37)).alloc (.cells (arr 4 fun _ => 0) 37)) w.heap.size 37 4 c := (Blk.new w 37 4 c).alloc _
  have HA := Lib.hid hA
  clear hA
  go_enter Tryd.func32, Tryd.ntmps32
  go_wp2_with (first | (refine wpList_load_row rfl 37 _ rfl w.heap.size rfl 37 (arr 4 c) (0, 0) _ HA.out Tryd.underlying37 rfl (size37 c) ?_) | (refine wpList_store_last rfl 37 _ _ rfl (arr 4 fun _ => 0) (arr 4 c) _ rfl rfl (size37 c) (arr_sizes 4 _ c) (arr_one 4 c) ?_))
  have hM : Blk ((w.alloc (.cells (arr 4 c) 37)).alloc (.cells (arr 4 c) 37)) (w.heap.size + 1) 37 4 c := by
    have := Blk.new (w.alloc (.cells (arr 4 c) 37)) 37 4 c
    rwa [World.size_alloc] at this
  exact bodyPost_ret (results_cell_row rfl _ _ (w.heap.size + 1) 37 (arr 4 c) (0, 0) _ rfl hM Tryd.underlying37 rfl (size37 c)) rfl ⟨rfl, ((Below.refl _ w).alloc (Nat.le_refl _) _).alloc (by simp) _⟩

end Go.Proofs.YtbahdcebgcgeeaaDoor
