/- The contracts of the document's Round and Last. -/
import Derived.Test.YtbahdcebgcgeeaaDoorUE
namespace Go.Proofs.YtbahdcebgcgeeaaDoor
open Go.RowKit

/-- What holds in the statement 'return keyed(shifted(block), key)', when the operations of L are over. -/
structure LInv (f ky : Nat → Nat) (w : World) (ga gk go : Nat) (L : Nat → Bool) (a : Act) (w' : World) : Prop where
  frame : ∃ s, a = mkA 9 s ∧ s 2 = .pointer (some ⟨ga, 0, none⟩) ∧ s 3 = .pointer (some ⟨gk, 0, none⟩) ∧ s 4 = .pointer (some ⟨go, 0, none⟩) ∧
    (L 0 = true → s 5 = .agg (arr 16 f)) ∧ (L 1 = true → s 6 = .agg (arr 16 (shf f))) ∧ (L 2 = true → s 7 = .agg (arr 16 ky)) ∧ (L 3 = true → s 8 = .agg (arr 16 fun i => shf f i ^^^ ky i))
  below : Below w.heap.size w w'
  ba : Blk w' ga 38 16 f
  bk : Blk w' gk 38 16 ky
  bo : Blk w' go 38 16 (if L 4 = true then fun i => shf f i ^^^ ky i else fun _ => 0)

theorem rnd_last (f ky : Nat → Nat) (i : Nat) : shf f i ^^^ ky i = rnd sameF f ky i := by
  unfold rnd sameF col
  rw [show 4 * (i / 4) + i % 4 = i by omega]

set_option maxRecDepth 100000 in
set_option maxHeartbeats 1000000 in
theorem refLast_any (f ky : Nat → Nat) (hf : ∀ i, f i < 256) (hky : ∀ i, ky i < 256) (w : World) :
    Calls Tryd.prog 25 #[.agg (arr 16 f), .agg (arr 16 ky)] w fun e W' => e = .returned (.agg (arr 16 (rnd sameF f ky))) ∧ Below w.heap.size w W' := by
  have z := zero38
  rw [← arr_congr (fun i _ => rnd_last f ky i)]
  obtain ⟨hB, ha, hk, ho⟩ := three w f ky (fun _ => 0)
  go_enter Tryd.func25, Tryd.ntmps25
  go_wp2
  generalize ((w.alloc (.cells (arr 16 f) 38)).alloc (.cells (arr 16 ky) 38)).alloc (.cells (arr 16 fun _ => 0) 38) = W0 at hB ha hk ho ⊢
  clear z
  refine wp_region_open (by kernel_rfl) (by kernel_rfl) (by kernel_rfl) (LInv f ky w w.heap.size (w.heap.size + 1) (w.heap.size + 1 + 1)) ?start ?step ?done
  case start =>
    refine ⟨⟨fun t => (#[Value.agg (arr 16 f), Value.agg (arr 16 ky), Value.pointer (some ⟨w.heap.size, 0, none⟩), Value.pointer (some ⟨w.heap.size + 1, 0, none⟩), Value.pointer (some ⟨w.heap.size + 1 + 1, 0, none⟩), undef, undef, undef, undef] : Array Value).getD t undef, rfl, rfl, rfl, rfl, (fun h => by cases h), (fun h => by cases h), (fun h => by cases h), (fun h => by cases h)⟩, hB.drew, ha, hk, ho⟩
  case step =>
    intro L a w1 i o ho1 hLi hed hI
    obtain ⟨⟨s, rfl, s2, s3, s4, k0, k1, k2, k3⟩, hB1, ba, bk, bo⟩ := hI
    have hi : i < 5 := by simpa using (Array.getElem?_eq_some_iff.1 ho1).1
    rcases (by omega : i = 0 ∨ i = 1 ∨ i = 2 ∨ i = 3 ∨ i = 4) with rfl | rfl | rfl | rfl | rfl
    · -- the block is read
      simp only [List.getElem?_toArray, List.getElem?_cons_zero, Option.some.injEq] at ho1
      subst ho1
      refine (wp_load_row 38 (.tmp 2) rfl w.heap.size ((mkA_eval 9 s 2 (by decide)).trans s2) 38 (arr 16 f) (0, 0) _ ba Tryd.underlying38 rfl (size38 f) ?_)
      dsimp only
      rw [mkA_put]
      exact ⟨⟨_, rfl, s2, s3, s4, fun _ => rfl, fun h => k1 h, fun h => k2 h, fun h => k3 h⟩, hB1, ba, bk, bo⟩
    · -- shifted
      simp only [List.getElem?_toArray, List.getElem?_cons_succ, List.getElem?_cons_zero, Option.some.injEq] at ho1
      subst ho1
      have s5 := k0 (hed ⟨0, .data⟩ (by simp) rfl)
      refine (wp_call_fn 30 (.func 30) #[.tmp 5] #[38] rfl #[] rfl (enters_of Tryd.func30 (by kernel_rfl) rfl) #[.agg (arr 16 f)] (by simp [mkA_eval, s5]) _ (refshifted_any f hf w1) ?_)
      rintro e w' ⟨rfl, hb⟩
      refine ⟨_, rfl, ?_⟩
      dsimp only
      rw [mkA_put]
      exact ⟨⟨_, rfl, s2, s3, s4, fun h => k0 h, fun _ => rfl, fun h => k2 h, fun h => k3 h⟩, hB1.trans (hb.mono hB1.size), ba.grown hb, bk.grown hb, bo.grown hb⟩
    · -- the key is read
      simp only [List.getElem?_toArray, List.getElem?_cons_succ, List.getElem?_cons_zero, Option.some.injEq] at ho1
      subst ho1
      refine (wp_load_row 38 (.tmp 3) rfl (w.heap.size + 1) ((mkA_eval 9 s 3 (by decide)).trans s3) 38 (arr 16 ky) (0, 0) _ bk Tryd.underlying38 rfl (size38 ky) ?_)
      dsimp only
      rw [mkA_put]
      exact ⟨⟨_, rfl, s2, s3, s4, fun h => k0 h, fun h => k1 h, fun _ => rfl, fun h => k3 h⟩, hB1, ba, bk, bo⟩
    · -- keyed
      simp only [List.getElem?_toArray, List.getElem?_cons_succ, List.getElem?_cons_zero, Option.some.injEq] at ho1
      subst ho1
      have s6 := k1 (hed ⟨1, .data⟩ (by simp) rfl)
      have s7 := k2 (hed ⟨2, .data⟩ (by simp) rfl)
      refine (wp_call_fn 31 (.func 31) #[.tmp 6, .tmp 7] #[38, 38] rfl #[] rfl (enters_of Tryd.func31 (by kernel_rfl) rfl) #[.agg (arr 16 (shf f)), .agg (arr 16 ky)] (by simp [mkA_eval, s6, s7]) _ (keyed_any (shf f) ky (shf_lt f hf) hky w1) ?_)
      rintro e w' ⟨rfl, hb⟩
      refine ⟨_, rfl, ?_⟩
      dsimp only
      rw [mkA_put]
      exact ⟨⟨_, rfl, s2, s3, s4, fun h => k0 h, fun h => k1 h, fun h => k2 h, fun _ => rfl⟩, hB1.trans (hb.mono hB1.size), ba.grown hb, bk.grown hb, bo.grown hb⟩
    · -- the store
      simp only [List.getElem?_toArray, List.getElem?_cons_succ, List.getElem?_cons_zero, Option.some.injEq] at ho1
      subst ho1
      have s8 := k3 (hed ⟨3, .data⟩ (by simp) rfl)
      refine (wp_store_row 38 (.tmp 4) (.tmp 8) rfl (w.heap.size + 1 + 1) (arr 16 fun i => shf f i ^^^ ky i) ((mkA_eval 9 s 4 (by decide)).trans s4) ((mkA_eval 9 s 8 (by decide)).trans s8) 38 _ bo (size38 _) (arr_sizes 16 _ _) (arr_one _ _) ?_)
      exact ⟨⟨s, rfl, s2, s3, s4, fun h => k0 h, fun h => k1 h, fun h => k2 h, fun h => k3 h⟩, below_setRow hB1 (by omega), blk_setRow_other ba (by omega), blk_setRow_other bk (by omega), blk_setRow bo⟩
  case done =>
    intro L a w1 hL hI
    obtain ⟨⟨s, rfl, s2, s3, s4, k0, k1, k2, k3⟩, hB1, ba, bk, bo⟩ := hI
    rw [if_pos (hL 4 (by simp))] at bo
    have HO := Lib.hid bo
    have HB := Lib.hid hB1
    have S4 := Lib.hid s4
    clear ba bk bo s2 s3 s4 k0 k1 k2 k3 hB1 hL
    go_wp2
    have ht : (mkA 9 s).tmps.getD 4 undef = .pointer (some ⟨w.heap.size + 1 + 1, 0, none⟩) := (mkA_eval 9 s 4 (by decide)).trans S4.out
    exact bodyPost_ret (results_cell_row rfl _ _ (w.heap.size + 1 + 1) 38 _ (0, 0) _ ht HO.out Tryd.underlying38 rfl (size38 _)) rfl ⟨rfl, HB.out⟩

end Go.Proofs.YtbahdcebgcgeeaaDoor
