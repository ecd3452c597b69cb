/- The contracts of field.round, field.Round and field.Last. -/
import Derived.Test.YtbahdcebgcgeeaaDoorN
import Derived.Test.YtbahdcebgcgeeaaDoorO
namespace Go.Proofs.YtbahdcebgcgeeaaDoor
open Go.RowKit

theorem mixes_mix : Mixes 18 mixF := ⟨fun c hc w => mix_any c hc w, fun c hc i => mixF_lt c hc i, enters_of Tryd.func18 (by kernel_rfl) rfl⟩
/-- A column left as it is. -/
def sameF (c : Nat → Nat) : Nat → Nat := c
theorem mixes_same : Mixes 32 sameF := ⟨fun c _ w => same_any c w, fun _ hc i => hc i, enters_of Tryd.func32 (by kernel_rfl) rfl⟩

theorem round1_any (fm : FuncId) (mx : (Nat → Nat) → Nat → Nat) (hm : Mixes fm mx) (Bm : Nat) (f ky : Nat → Nat) (hf : ∀ i, f i < 256) (hky : ∀ i, ky i < 256) (w : World)
    (hBm : w.cell? ⟨Bm, 0, none⟩ = some (.func (.func fm) #[] #[])) :
    Calls Tryd.prog 34 #[.agg (arr 16 f), .agg (arr 16 ky), .pointer (some ⟨Bm, 0, none⟩)] w fun e W' => e = .returned (.agg (arr 16 (rnd mx f ky))) ∧ Below w.heap.size w W' :=
  callsIn_wide.1 (round1_in 3 (by omega) fm mx hm Bm f ky hf hky w hBm)

theorem mkround_any (fm : FuncId) (w : World) :
    Calls Tryd.prog 29 #[.func (.func fm) #[] #[]] w fun e w' => e = .returned (.func (.func 34) #[] #[.pointer (some ⟨w.heap.size, 0, none⟩)]) ∧ w.alloc (.cells #[.func (.func fm) #[] #[]] 39) = w' := by
  go_enter Tryd.func29, Tryd.ntmps29
  go_wp2
  go_ret
  exact ⟨rfl, rfl⟩

/-- What holds in the statement 'return round(mix)(block, key)', when the operations of L are over. -/
structure RInv (fm : FuncId) (mx : (Nat → Nat) → Nat → Nat) (f ky : Nat → Nat) (w : World) (ga gk go : Nat) (L : Nat → Bool) (a : Act) (w' : World) : Prop where
  frame : ∃ s, a = mkA 9 s ∧ s 2 = .pointer (some ⟨ga, 0, none⟩) ∧ s 3 = .pointer (some ⟨gk, 0, none⟩) ∧ s 4 = .pointer (some ⟨go, 0, none⟩) ∧
    (L 0 = true → L 3 = false → ∃ Bm, s 5 = .func (.func 34) #[] #[.pointer (some ⟨Bm, 0, none⟩)] ∧ w'.cell? ⟨Bm, 0, none⟩ = some (.func (.func fm) #[] #[])) ∧
    (L 1 = true → s 6 = .agg (arr 16 f)) ∧ (L 2 = true → s 7 = .agg (arr 16 ky)) ∧ (L 3 = true → s 8 = .agg (arr 16 (rnd mx f ky)))
  below : Below w.heap.size w w'
  ba : Blk w' ga 38 16 f
  bk : Blk w' gk 38 16 ky
  bo : Blk w' go 38 16 (if L 4 = true then rnd mx f ky else fun _ => 0)

theorem blk_setRow {w : World} {g t n : Nat} {f f' : Nat → Nat} (h : Blk w g t n f) : Blk (w.setRow g (arr n f')) g t n f' := setRow_heap w g _ _ t _ h
theorem blk_setRow_other {w : World} {g g' t n : Nat} {f : Nat → Nat} {cs : Array Value} (h : Blk w g t n f) (hne : g ≠ g') : Blk (w.setRow g' cs) g t n f := (setRow_other w g' g cs hne).trans h
theorem below_setRow {w w' : World} {B g : Nat} {cs : Array Value} (h : Below B w w') (hg : B ≤ g) : Below B w (w'.setRow g cs) :=
  ⟨h.os, h.tape, h.output, by rw [size_setRow]; exact h.size, fun k hk => (setRow_other w' g k cs (by omega)).trans (h.block k hk)⟩
theorem below_drew {B : Nat} (w : World) : Below B w w.drew := ⟨rfl, rfl, rfl, Nat.le_refl _, fun _ _ => rfl⟩

set_option maxRecDepth 100000 in
set_option maxHeartbeats 1000000 in
theorem Round_any (f ky : Nat → Nat) (hf : ∀ i, f i < 256) (hky : ∀ i, ky i < 256) (w : World) :
    Calls Tryd.prog 22 #[.agg (arr 16 f), .agg (arr 16 ky)] w fun e W' => e = .returned (.agg (arr 16 (rnd mixF f ky))) ∧ Below w.heap.size w W' := by
  have z := zero38
  go_enter Tryd.func22, Tryd.ntmps22
  go_wp2
  obtain ⟨W0, hW0⟩ : ∃ W0, (((w.alloc (.cells (arr 16 f) 38)).alloc (.cells (arr 16 ky) 38)).alloc (.cells (arr 16 fun _ => 0) 38)) = W0 := ⟨_, rfl⟩
  have hB : Below w.heap.size w W0 := by
    rw [← hW0]
    exact (((Below.refl _ w).alloc (Nat.le_refl _) _).alloc (by simp) _).alloc (by simp; omega) _
  have ha : Blk W0 w.heap.size 38 16 f := by rw [← hW0]; exact ((Blk.new w 38 16 f).alloc _).alloc _
  have hk : Blk W0 (w.heap.size + 1) 38 16 ky := by
    have := (Blk.new (w.alloc (.cells (arr 16 f) 38)) 38 16 ky).alloc (.cells (arr 16 fun _ => 0) 38)
    rw [hW0] at this; simpa using this
  have ho : Blk W0 (w.heap.size + 1 + 1) 38 16 (fun _ => 0) := by
    have := Blk.new ((w.alloc (.cells (arr 16 f) 38)).alloc (.cells (arr 16 ky) 38)) 38 16 (fun _ => 0)
    rw [hW0] at this; simpa using this
  rw [hW0]
  clear hW0 z
  refine wp_region_open (by kernel_rfl) (by kernel_rfl) (by kernel_rfl) (RInv 18 mixF f ky w w.heap.size (w.heap.size + 1) (w.heap.size + 1 + 1)) ?start ?step ?done
  case start =>
    refine ⟨⟨fun t => (#[Value.agg (arr 16 f), Value.agg (arr 16 ky), Value.pointer (some ⟨w.heap.size, 0, none⟩), Value.pointer (some ⟨w.heap.size + 1, 0, none⟩), Value.pointer (some ⟨w.heap.size + 1 + 1, 0, none⟩), undef, undef, undef, undef] : Array Value).getD t undef, rfl, rfl, rfl, rfl, (fun h => by cases h), (fun h => by cases h), (fun h => by cases h), (fun h => by cases h)⟩, hB.drew, ha, hk, ho⟩
  case step =>
    intro L a w1 i o ho1 hLi hed hI
    obtain ⟨⟨s, rfl, s2, s3, s4, k0, k1, k2, k3⟩, hB1, ba, bk, bo⟩ := hI
    have hi : i < 5 := by simpa using (Array.getElem?_eq_some_iff.1 ho1).1
    rcases (by omega : i = 0 ∨ i = 1 ∨ i = 2 ∨ i = 3 ∨ i = 4) with rfl | rfl | rfl | rfl | rfl
    · -- the function value is made
      simp only [List.getElem?_toArray, List.getElem?_cons_zero, Option.some.injEq] at ho1
      subst ho1
      refine (wp_call_fn 29 (.func 29) #[.func 18] #[39] rfl #[] rfl (enters_of Tryd.func29 (by kernel_rfl) rfl) #[.func (.func 18) #[] #[]] (by simp [Act.eval]) _ (mkround_any 18 w1) ?_)
      rintro e w' ⟨rfl, rfl⟩
      refine ⟨_, rfl, ?_⟩
      dsimp only
      rw [mkA_put]
      refine ⟨⟨_, rfl, s2, s3, s4, fun _ _ => ⟨w1.heap.size, rfl, ?_⟩, fun h => ?_, fun h => ?_, fun h => ?_⟩, hB1.alloc hB1.size _, ba.alloc _, bk.alloc _, bo.alloc _⟩
      · rw [cell_of_row _ _ _ _ _ _ (heap_alloc_new w1 _)]; rfl
      · exact k1 h
      · exact k2 h
      · exact k3 h
    · -- the block is read
      simp only [List.getElem?_toArray, List.getElem?_cons_succ, List.getElem?_cons_zero, Option.some.injEq] at ho1
      subst ho1
      refine (wp_load_row 38 (.tmp 2) rfl w.heap.size ((mkA_eval 9 s 2 (by decide)).trans s2) 38 (arr 16 f) (0, 0) _ ba Tryd.underlying38 rfl (size38 f) ?_)
      dsimp only
      rw [mkA_put]
      exact ⟨⟨_, rfl, s2, s3, s4, fun h h3 => k0 h h3, fun _ => rfl, fun h => k2 h, fun h => k3 h⟩, hB1, ba, bk, bo⟩
    · -- the key is read
      simp only [List.getElem?_toArray, List.getElem?_cons_succ, List.getElem?_cons_zero, Option.some.injEq] at ho1
      subst ho1
      refine (wp_load_row 38 (.tmp 3) rfl (w.heap.size + 1) ((mkA_eval 9 s 3 (by decide)).trans s3) 38 (arr 16 ky) (0, 0) _ bk Tryd.underlying38 rfl (size38 ky) ?_)
      dsimp only
      rw [mkA_put]
      exact ⟨⟨_, rfl, s2, s3, s4, fun h h3 => k0 h h3, fun h => k1 h, fun _ => rfl, fun h => k3 h⟩, hB1, ba, bk, bo⟩
    · -- the call
      simp only [List.getElem?_toArray, List.getElem?_cons_succ, List.getElem?_cons_zero, Option.some.injEq] at ho1
      subst ho1
      obtain ⟨Bm, s5, hc⟩ := k0 (hed ⟨0, .data⟩ (by simp) rfl) hLi
      have s6 := k1 (hed ⟨1, .data⟩ (by simp) rfl)
      have s7 := k2 (hed ⟨2, .data⟩ (by simp) rfl)
      refine (wp_call_fn 34 (.tmp 5) #[.tmp 6, .tmp 7] #[38, 38] rfl #[.pointer (some ⟨Bm, 0, none⟩)] ((mkA_eval 9 s 5 (by decide)).trans s5) (enters_of Tryd.func34 (by kernel_rfl) rfl) #[.agg (arr 16 f), .agg (arr 16 ky)] ?_ _ (round1_any 18 mixF mixes_mix Bm f ky hf hky w1 hc) ?_)
      · simp [mkA_eval, s6, s7]
      · rintro e w' ⟨rfl, hb⟩
        refine ⟨_, rfl, ?_⟩
        dsimp only
        rw [mkA_put]
        exact ⟨⟨_, rfl, s2, s3, s4, (fun _ h3 => by simp [setL] at h3), fun _ => s6, fun _ => s7, fun _ => rfl⟩, hB1.trans (hb.mono hB1.size), ba.grown hb, bk.grown hb, bo.grown hb⟩
    · -- the store
      simp only [List.getElem?_toArray, List.getElem?_cons_succ, List.getElem?_cons_zero, Option.some.injEq] at ho1
      subst ho1
      have h3t := hed ⟨3, .data⟩ (by simp) rfl
      have s8 := k3 h3t
      refine (wp_store_row 38 (.tmp 4) (.tmp 8) rfl (w.heap.size + 1 + 1) (arr 16 (rnd mixF f ky)) ((mkA_eval 9 s 4 (by decide)).trans s4) ((mkA_eval 9 s 8 (by decide)).trans s8) 38 _ bo (size38 _) (arr_sizes 16 _ _) (arr_one _ _) ?_)
      exact ⟨⟨s, rfl, s2, s3, s4, (fun _ h3 => by rw [setL_ne L 4 3 (by decide), h3t] at h3; cases h3), fun h => k1 h, fun h => k2 h, fun h => k3 h⟩, below_setRow hB1 (by omega), blk_setRow_other ba (by omega), blk_setRow_other bk (by omega), blk_setRow bo⟩
  case done =>
    intro L a w1 hL hI
    obtain ⟨⟨s, rfl, s2, s3, s4, k0, k1, k2, k3⟩, hB1, ba, bk, bo⟩ := hI
    rw [if_pos (hL 4 (by simp))] at bo
    have HO := Lib.hid bo
    have HB := Lib.hid hB1
    have S4 := Lib.hid s4
    clear ba bk bo s2 s3 s4 k0 k1 k2 k3 hB1 hL
    go_wp2
    have ht : (mkA 9 s).tmps.getD 4 undef = .pointer (some ⟨w.heap.size + 1 + 1, 0, none⟩) := (mkA_eval 9 s 4 (by decide)).trans S4.out
    exact bodyPost_ret (results_cell_row rfl _ _ (w.heap.size + 1 + 1) 38 _ (0, 0) _ ht HO.out Tryd.underlying38 rfl (size38 _)) rfl ⟨rfl, HB.out⟩

set_option maxRecDepth 100000 in
set_option maxHeartbeats 1000000 in
theorem Last_any (f ky : Nat → Nat) (hf : ∀ i, f i < 256) (hky : ∀ i, ky i < 256) (w : World) :
    Calls Tryd.prog 24 #[.agg (arr 16 f), .agg (arr 16 ky)] w fun e W' => e = .returned (.agg (arr 16 (rnd sameF f ky))) ∧ Below w.heap.size w W' := by
  have z := zero38
  go_enter Tryd.func24, Tryd.ntmps24
  go_wp2
  obtain ⟨W0, hW0⟩ : ∃ W0, (((w.alloc (.cells (arr 16 f) 38)).alloc (.cells (arr 16 ky) 38)).alloc (.cells (arr 16 fun _ => 0) 38)) = W0 := ⟨_, rfl⟩
  have hB : Below w.heap.size w W0 := by
    rw [← hW0]
    exact (((Below.refl _ w).alloc (Nat.le_refl _) _).alloc (by simp) _).alloc (by simp; omega) _
  have ha : Blk W0 w.heap.size 38 16 f := by rw [← hW0]; exact ((Blk.new w 38 16 f).alloc _).alloc _
  have hk : Blk W0 (w.heap.size + 1) 38 16 ky := by
    have := (Blk.new (w.alloc (.cells (arr 16 f) 38)) 38 16 ky).alloc (.cells (arr 16 fun _ => 0) 38)
    rw [hW0] at this; simpa using this
  have ho : Blk W0 (w.heap.size + 1 + 1) 38 16 (fun _ => 0) := by
    have := Blk.new ((w.alloc (.cells (arr 16 f) 38)).alloc (.cells (arr 16 ky) 38)) 38 16 (fun _ => 0)
    rw [hW0] at this; simpa using this
  rw [hW0]
  clear hW0 z
  refine wp_region_open (by kernel_rfl) (by kernel_rfl) (by kernel_rfl) (RInv 32 sameF f ky w w.heap.size (w.heap.size + 1) (w.heap.size + 1 + 1)) ?start ?step ?done
  case start =>
    refine ⟨⟨fun t => (#[Value.agg (arr 16 f), Value.agg (arr 16 ky), Value.pointer (some ⟨w.heap.size, 0, none⟩), Value.pointer (some ⟨w.heap.size + 1, 0, none⟩), Value.pointer (some ⟨w.heap.size + 1 + 1, 0, none⟩), undef, undef, undef, undef] : Array Value).getD t undef, rfl, rfl, rfl, rfl, (fun h => by cases h), (fun h => by cases h), (fun h => by cases h), (fun h => by cases h)⟩, hB.drew, ha, hk, ho⟩
  case step =>
    intro L a w1 i o ho1 hLi hed hI
    obtain ⟨⟨s, rfl, s2, s3, s4, k0, k1, k2, k3⟩, hB1, ba, bk, bo⟩ := hI
    have hi : i < 5 := by simpa using (Array.getElem?_eq_some_iff.1 ho1).1
    rcases (by omega : i = 0 ∨ i = 1 ∨ i = 2 ∨ i = 3 ∨ i = 4) with rfl | rfl | rfl | rfl | rfl
    · -- the function value is made
      simp only [List.getElem?_toArray, List.getElem?_cons_zero, Option.some.injEq] at ho1
      subst ho1
      refine (wp_call_fn 29 (.func 29) #[.func 32] #[39] rfl #[] rfl (enters_of Tryd.func29 (by kernel_rfl) rfl) #[.func (.func 32) #[] #[]] (by simp [Act.eval]) _ (mkround_any 32 w1) ?_)
      rintro e w' ⟨rfl, rfl⟩
      refine ⟨_, rfl, ?_⟩
      dsimp only
      rw [mkA_put]
      refine ⟨⟨_, rfl, s2, s3, s4, fun _ _ => ⟨w1.heap.size, rfl, ?_⟩, fun h => ?_, fun h => ?_, fun h => ?_⟩, hB1.alloc hB1.size _, ba.alloc _, bk.alloc _, bo.alloc _⟩
      · rw [cell_of_row _ _ _ _ _ _ (heap_alloc_new w1 _)]; rfl
      · exact k1 h
      · exact k2 h
      · exact k3 h
    · -- the block is read
      simp only [List.getElem?_toArray, List.getElem?_cons_succ, List.getElem?_cons_zero, Option.some.injEq] at ho1
      subst ho1
      refine (wp_load_row 38 (.tmp 2) rfl w.heap.size ((mkA_eval 9 s 2 (by decide)).trans s2) 38 (arr 16 f) (0, 0) _ ba Tryd.underlying38 rfl (size38 f) ?_)
      dsimp only
      rw [mkA_put]
      exact ⟨⟨_, rfl, s2, s3, s4, fun h h3 => k0 h h3, fun _ => rfl, fun h => k2 h, fun h => k3 h⟩, hB1, ba, bk, bo⟩
    · -- the key is read
      simp only [List.getElem?_toArray, List.getElem?_cons_succ, List.getElem?_cons_zero, Option.some.injEq] at ho1
      subst ho1
      refine (wp_load_row 38 (.tmp 3) rfl (w.heap.size + 1) ((mkA_eval 9 s 3 (by decide)).trans s3) 38 (arr 16 ky) (0, 0) _ bk Tryd.underlying38 rfl (size38 ky) ?_)
      dsimp only
      rw [mkA_put]
      exact ⟨⟨_, rfl, s2, s3, s4, fun h h3 => k0 h h3, fun h => k1 h, fun _ => rfl, fun h => k3 h⟩, hB1, ba, bk, bo⟩
    · -- the call
      simp only [List.getElem?_toArray, List.getElem?_cons_succ, List.getElem?_cons_zero, Option.some.injEq] at ho1
      subst ho1
      obtain ⟨Bm, s5, hc⟩ := k0 (hed ⟨0, .data⟩ (by simp) rfl) hLi
      have s6 := k1 (hed ⟨1, .data⟩ (by simp) rfl)
      have s7 := k2 (hed ⟨2, .data⟩ (by simp) rfl)
      refine (wp_call_fn 34 (.tmp 5) #[.tmp 6, .tmp 7] #[38, 38] rfl #[.pointer (some ⟨Bm, 0, none⟩)] ((mkA_eval 9 s 5 (by decide)).trans s5) (enters_of Tryd.func34 (by kernel_rfl) rfl) #[.agg (arr 16 f), .agg (arr 16 ky)] ?_ _ (round1_any 32 sameF mixes_same Bm f ky hf hky w1 hc) ?_)
      · simp [mkA_eval, s6, s7]
      · rintro e w' ⟨rfl, hb⟩
        refine ⟨_, rfl, ?_⟩
        dsimp only
        rw [mkA_put]
        exact ⟨⟨_, rfl, s2, s3, s4, (fun _ h3 => by simp [setL] at h3), fun _ => s6, fun _ => s7, fun _ => rfl⟩, hB1.trans (hb.mono hB1.size), ba.grown hb, bk.grown hb, bo.grown hb⟩
    · -- the store
      simp only [List.getElem?_toArray, List.getElem?_cons_succ, List.getElem?_cons_zero, Option.some.injEq] at ho1
      subst ho1
      have h3t := hed ⟨3, .data⟩ (by simp) rfl
      have s8 := k3 h3t
      refine (wp_store_row 38 (.tmp 4) (.tmp 8) rfl (w.heap.size + 1 + 1) (arr 16 (rnd sameF f ky)) ((mkA_eval 9 s 4 (by decide)).trans s4) ((mkA_eval 9 s 8 (by decide)).trans s8) 38 _ bo (size38 _) (arr_sizes 16 _ _) (arr_one _ _) ?_)
      exact ⟨⟨s, rfl, s2, s3, s4, (fun _ h3 => by rw [setL_ne L 4 3 (by decide), h3t] at h3; cases h3), fun h => k1 h, fun h => k2 h, fun h => k3 h⟩, below_setRow hB1 (by omega), blk_setRow_other ba (by omega), blk_setRow_other bk (by omega), blk_setRow bo⟩
  case done =>
    intro L a w1 hL hI
    obtain ⟨⟨s, rfl, s2, s3, s4, k0, k1, k2, k3⟩, hB1, ba, bk, bo⟩ := hI
    rw [if_pos (hL 4 (by simp))] at bo
    have HO := Lib.hid bo
    have HB := Lib.hid hB1
    have S4 := Lib.hid s4
    clear ba bk bo s2 s3 s4 k0 k1 k2 k3 hB1 hL
    go_wp2
    have ht : (mkA 9 s).tmps.getD 4 undef = .pointer (some ⟨w.heap.size + 1 + 1, 0, none⟩) := (mkA_eval 9 s 4 (by decide)).trans S4.out
    exact bodyPost_ret (results_cell_row rfl _ _ (w.heap.size + 1 + 1) 38 _ (0, 0) _ ht HO.out Tryd.underlying38 rfl (size38 _)) rfl ⟨rfl, HB.out⟩

end Go.Proofs.YtbahdcebgcgeeaaDoor
