/- The contracts of the document's Box, Back, and of its keyed. -/
import Derived.Test.YtbahdcebgcgeeaaDoorUC
import Derived.Test.YtbahdcebgcgeeaaDoorP
namespace Go.Proofs.YtbahdcebgcgeeaaDoor
open Go.RowKit

/-- The first k of f's numbers, the others 0. -/
def upF (f : Nat → Nat) (k : Nat) : Nat → Nat := fun i => if i < k then f i else 0
theorem upF_zero (f : Nat → Nat) (i : Nat) : 0 = upF f 0 i := by simp [upF]
theorem upF_step (f : Nat → Nat) (k v : Nat) (hv : v = f k) (i : Nat) : upd (upF f k) k v i = upF f (k + 1) i := by
  unfold upd upF
  by_cases h : i = k
  · subst h; simp [hv]
  · have h2 : i < k + 1 ↔ i < k := by omega
    simp [h, h2]
theorem upF_all (f : Nat → Nat) (n i : Nat) (h : i < n) : upF f n i = f i := by simp [upF, h]
theorem zero28a (w : World) : (zeroValue 28).run Tryd.prog w = .ok (.agg (arr 256 fun _ => 0)) w := by
  rw [← zeroA_arr]; exact zero28 w

set_option maxRecDepth 100000 in
set_option maxHeartbeats 400000 in
theorem refBox_any (w : World) : Calls Tryd.prog 20 #[] w fun e w' => e = .returned (.agg (arr 256 bx)) ∧ Below w.heap.size w w' := by
  have hz := zero28a
  have h0 : Blk ((w.alloc (.cells (arr 256 fun _ => 0) 28)).alloc (.cells (arr 256 fun _ => 0) 28)) w.heap.size 28 256 (fun _ => 0) := (Blk.new w 28 256 _).alloc _
  have h1 : Blk ((w.alloc (.cells (arr 256 fun _ => 0) 28)).alloc (.cells (arr 256 fun _ => 0) 28)) (w.heap.size + 1) 28 256 (fun _ => 0) := by
    have := Blk.new (w.alloc (.cells (arr 256 fun _ => 0) 28)) 28 256 (fun _ => 0)
    rwa [World.size_alloc] at this
  have hB : Below w.heap.size w ((w.alloc (.cells (arr 256 fun _ => 0) 28)).alloc (.cells (arr 256 fun _ => 0) 28)) := ((Below.refl _ w).alloc (Nat.le_refl _) _).alloc (by simp) _
  have H0 := Lib.hid h0
  have H1 := Lib.hid h1
  have HB := Lib.hid hB
  clear h0 h1 hB
  go_enter Tryd.func20, Tryd.ntmps20
  go_wp2
  clear hz
  go_loopw [2] (fun i wr => ∃ k : Nat, k ≤ 256 ∧ i = .int .i64 (k : Int) ∧ Blk wr w.heap.size 28 256 (fun _ => 0) ∧ Blk wr (w.heap.size + 1) 28 256 (upF bx k) ∧ Below w.heap.size w wr) (fun i _ => 256 - (intOf i).toNat)
  case atStart => exact ⟨0, by omega, rfl, H0.out, H1.out.congr (fun i _ => upF_zero bx i), HB.out⟩
  case round =>
    clear H0 H1 HB
    obtain ⟨k, hk, rfl, h0, h1, hB⟩ := hrel
    by_cases hlt : k < 256
    · have hc := h1.cell k hlt
      have hf := h1.frozen k
      have H0 := Lib.hid h0
      have H1 := Lib.hid h1
      have HB := Lib.hid hB
      clear h0 h1 hB
      go_wp2_with (go_at_call 28; refine (refbox_any k hlt _).mono ?_; rintro e w' ⟨rfl, rfl⟩)
      go_roundw
      case rel => exact ⟨k + 1, by omega, by go_num, H0.out.other _ _ (by simp), (H1.out.set k (bx k)).congr (fun i _ => upF_step bx k _ rfl i), HB.out.setCell (by simp) _⟩
      case measure => simp [intOf]; omega
    · obtain rfl : k = 256 := by omega
      have H0 := Lib.hid h0
      have H1 := Lib.hid (h1.congr (fun i hi => upF_all bx 256 i hi))
      have HB := Lib.hid hB
      clear h0 h1 hB
      go_wp2_with (first
        | (refine wpList_load_row rfl 28 _ rfl (w.heap.size + 1) rfl 28 (arr 256 bx) (0, 0) _ H1.out Tryd.underlying28 rfl (size28a bx) ?_)
        | (refine wpList_store_row rfl 28 _ _ rfl w.heap.size (arr 256 bx) rfl rfl 28 (arr 256 fun _ => 0) H0.out (size28a _) (arr_sizes _ _ _) (arr_one _ _) ?_))
      exact bodyPost_ret (results_cell_row rfl _ _ w.heap.size 28 (arr 256 bx) (0, 0) _ rfl (blk_setRow H0.out) Tryd.underlying28 rfl (size28a _)) rfl ⟨rfl, below_setRow HB.out (Nat.le_refl _)⟩

theorem backC_arr : backC 256 = arr 256 bk := by
  apply Array.ext_getElem?
  intro i
  by_cases hi : i < 256
  · rw [backC_at i hi, arr_at 256 bk i hi]
  · rw [Array.getElem?_eq_none (by rw [backC_size]; omega), Array.getElem?_eq_none (by rw [arr_size]; omega)]

set_option maxRecDepth 100000 in
set_option maxHeartbeats 400000 in
theorem refBack_any (w : World) : Calls Tryd.prog 21 #[] w fun e w' => e = .returned (.agg (arr 256 bk)) ∧ Below w.heap.size w w' := by
  have hz := zero28
  have h0 : ((w.alloc (.cells (zeroA 256) 28)).alloc (.cells (zeroA 256) 28)).heap[w.heap.size]? = some (.cells (zeroA 256) 28 (0, 0)) := heap_alloc2_old w _ _
  have h1 : ((w.alloc (.cells (zeroA 256) 28)).alloc (.cells (zeroA 256) 28)).heap[w.heap.size + 1]? = some (.cells (zeroA 256) 28 (0, 0)) := heap_alloc2_new w _ _
  have hB : Below w.heap.size w ((w.alloc (.cells (zeroA 256) 28)).alloc (.cells (zeroA 256) 28)) := ((Below.refl _ w).alloc (Nat.le_refl _) _).alloc (by simp) _
  have H0 := Lib.hid h0
  have H1 := Lib.hid h1
  have HB := Lib.hid hB
  clear h0 h1 hB
  go_enter Tryd.func21, Tryd.ntmps21
  go_wp2
  clear hz
  go_loopw [2] (fun i wr => ∃ k : Nat, k ≤ 256 ∧ i = .int .i64 (k : Int) ∧ wr.heap[w.heap.size]? = some (.cells (zeroA 256) 28 (0, 0)) ∧ wr.heap[w.heap.size + 1]? = some (.cells (backC k) 28 (0, 0)) ∧ Below w.heap.size w wr) (fun i _ => 256 - (intOf i).toNat)
  case atStart => exact ⟨0, by omega, rfl, H0.out, H1.out, HB.out⟩
  case round =>
    clear H0 H1 HB
    obtain ⟨k, hk, rfl, h0, h1, hB⟩ := hrel
    by_cases hlt : k < 256
    · have hbl := bx_lt k hlt
      have hc : wr.cell? ⟨w.heap.size + 1, bx k, none⟩ = some ((backC k).getD (bx k) undef) := by
        rw [cell_of_row _ _ _ _ _ _ h1]; simp [backC_size, hbl]
      have hf := frozen_of_row _ _ (bx k) _ _ h1
      have H0 := Lib.hid h0
      have H1 := Lib.hid h1
      have HB := Lib.hid hB
      clear h0 h1 hB
      go_wp2_with (go_at_call 28; refine (refbox_any k hlt _).mono ?_; rintro e w' ⟨rfl, rfl⟩)
      go_roundw
      case rel => exact ⟨k + 1, by omega, by go_num, by rw [heap_setCell_other _ _ _ _ (by simp)]; exact H0.out, by rw [heap_setCell_same _ _ _ _ _ _ H1.out]; rfl, HB.out.setCell (by simp) _⟩
      case measure => simp [intOf]; omega
    · obtain rfl : k = 256 := by omega
      have hi : (Tryd.prog.info? 28).map (·.size) = some (backC 256).size := by rw [backC_size]; exact size28
      have H0 := Lib.hid h0
      have H1 := Lib.hid h1
      have HB := Lib.hid hB
      clear h0 h1 hB
      go_wp2_with (first
        | (refine wpList_load_row rfl 28 _ rfl (w.heap.size + 1) rfl 28 (backC 256) (0, 0) _ H1.out Tryd.underlying28 rfl hi ?_)
        | (refine wpList_store_row rfl 28 _ _ rfl w.heap.size (backC 256) rfl rfl 28 (zeroA 256) H0.out hi (by rw [zeroA_size, backC_size]) (backC_one 256) ?_))
      exact bodyPost_ret (results_cell_row rfl _ _ w.heap.size 28 (backC 256) (0, 0) _ rfl (setRow_heap _ _ _ _ _ _ H0.out) Tryd.underlying28 rfl hi) rfl ⟨by rw [backC_arr], below_setRow HB.out (Nat.le_refl _)⟩

/-- A block, when k of its bytes have got their key. -/
def kU (f ky : Nat → Nat) (k : Nat) : Nat → Nat := fun i => if i < k then f i ^^^ ky i else f i
theorem kU_step (f ky : Nat → Nat) (k : Nat) (j : Nat) (_ : j < 16) : upd (kU f ky k) k (f k ^^^ ky k) j = kU f ky (k + 1) j := by
  unfold upd kU
  by_cases h : j = k
  · subst h; simp
  · have h2 : j < k + 1 ↔ j < k := by omega
    simp [h, h2]
theorem kU_at (f ky : Nat → Nat) (k : Nat) : kU f ky k k = f k := by simp [kU]

/-- Three blocks, laid one behind the other. -/
theorem three (w : World) (f ky h : Nat → Nat) : Below w.heap.size w (((w.alloc (.cells (arr 16 f) 38)).alloc (.cells (arr 16 ky) 38)).alloc (.cells (arr 16 h) 38)) ∧
    Blk (((w.alloc (.cells (arr 16 f) 38)).alloc (.cells (arr 16 ky) 38)).alloc (.cells (arr 16 h) 38)) w.heap.size 38 16 f ∧
    Blk (((w.alloc (.cells (arr 16 f) 38)).alloc (.cells (arr 16 ky) 38)).alloc (.cells (arr 16 h) 38)) (w.heap.size + 1) 38 16 ky ∧
    Blk (((w.alloc (.cells (arr 16 f) 38)).alloc (.cells (arr 16 ky) 38)).alloc (.cells (arr 16 h) 38)) (w.heap.size + 1 + 1) 38 16 h := by
  refine ⟨(((Below.refl _ w).alloc (Nat.le_refl _) _).alloc (by simp) _).alloc (by simp; omega) _, ((Blk.new w 38 16 f).alloc _).alloc _, ?_, ?_⟩
  · have := (Blk.new (w.alloc (.cells (arr 16 f) 38)) 38 16 ky).alloc (.cells (arr 16 h) 38)
    simpa using this
  · have := Blk.new ((w.alloc (.cells (arr 16 f) 38)).alloc (.cells (arr 16 ky) 38)) 38 16 h
    simpa using this

set_option maxRecDepth 100000 in
set_option maxHeartbeats 1000000 in
theorem keyed_any (f ky : Nat → Nat) (hf : ∀ i, f i < 256) (hky : ∀ i, ky i < 256) (w : World) :
    Calls Tryd.prog 31 #[.agg (arr 16 f), .agg (arr 16 ky)] w fun e W' => e = .returned (.agg (arr 16 fun i => f i ^^^ ky i)) ∧ Below w.heap.size w W' := by
  have z := zero38
  obtain ⟨hB, ha, hk, ho⟩ := three w f ky (fun _ => 0)
  go_enter Tryd.func31, Tryd.ntmps31
  go_wp2
  generalize ((w.alloc (.cells (arr 16 f) 38)).alloc (.cells (arr 16 ky) 38)).alloc (.cells (arr 16 fun _ => 0) 38) = W0 at hB ha hk ho ⊢
  obtain ⟨g2, hg2⟩ : ∃ g, w.heap.size = g := ⟨_, rfl⟩
  rw [hg2] at ha hk ho ⊢
  obtain ⟨g3, hg3⟩ : ∃ g, g2 + 1 = g := ⟨_, rfl⟩
  rw [hg3] at hk ho ⊢
  obtain ⟨g4, hg4⟩ : ∃ g, g3 + 1 = g := ⟨_, rfl⟩
  rw [hg4] at ho ⊢
  have HA := Lib.hid ha
  have HK := Lib.hid hk
  have HO := Lib.hid ho
  have HB := Lib.hid hB
  have HF := Lib.hid hf
  have HY := Lib.hid hky
  clear ha hk ho hB hf hky z
  go_loopw [5] (fun i wr => ∃ k : Nat, k ≤ 16 ∧ i = .int .i64 (k : Int) ∧ Blk wr g2 38 16 (kU f ky k) ∧ Blk wr g3 38 16 ky ∧ Blk wr g4 38 16 (fun _ => 0) ∧ Below w.heap.size w wr) (fun i _ => 16 - (intOf i).toNat)
  case atStart => exact ⟨0, by omega, rfl, HA.out.congr (fun i _ => by simp [kU]), HK.out, HO.out, HB.out⟩
  case round =>
    clear HA HK HO HB
    obtain ⟨k, hkk, rfl, ha, hk, ho, hB⟩ := hrel
    by_cases hlt : k < 16
    · have c2 := ha.cell k hlt
      rw [kU_at] at c2
      have f2 := ha.frozen k
      have c3 := hk.cell k hlt
      have x1 := u8_xor_nat (f k) (ky k) (HF.out k) (HY.out k)
      have HA := Lib.hid ha
      have HK := Lib.hid hk
      have HO := Lib.hid ho
      have HB := Lib.hid hB
      clear ha hk ho hB
      go_wp2
      go_region
      all_goals go_wp2
      all_goals go_roundw
      case rel => exact ⟨k + 1, by omega, by go_num, (HA.out.set k (f k ^^^ ky k)).congr (kU_step f ky k), Blk.other HK.out _ _ (by simp; omega), Blk.other HO.out _ _ (by simp; omega), (HB.out.setCell (p := ⟨g2, k, none⟩) (by show w.heap.size ≤ g2; omega) _).drew⟩
      case measure => simp [intOf]; omega
    · have hk16 : k = 16 := by omega
      have HA := Lib.hid (ha.congr (f' := fun i => f i ^^^ ky i) (fun i hi => by rw [kU, if_pos (by omega)]))
      have HO := Lib.hid ho
      have HB := Lib.hid hB
      clear ha hk ho hB hk16
      go_wp2_with (first
        | (refine wpList_load_row rfl 38 _ rfl g2 rfl 38 (arr 16 fun i => f i ^^^ ky i) (0, 0) _ HA.out Tryd.underlying38 rfl (size38 _) ?_)
        | (refine wpList_store_row rfl 38 _ _ rfl g4 (arr 16 fun i => f i ^^^ ky i) rfl rfl 38 (arr 16 fun _ => 0) HO.out (size38 _) (arr_sizes _ _ _) (arr_one _ _) ?_))
      exact bodyPost_ret (results_cell_row rfl _ _ g4 38 (arr 16 fun i => f i ^^^ ky i) (0, 0) _ rfl (blk_setRow HO.out) Tryd.underlying38 rfl (size38 _)) rfl ⟨rfl, below_setRow HB.out (by omega)⟩

end Go.Proofs.YtbahdcebgcgeeaaDoor
