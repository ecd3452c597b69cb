/- The walk of FieldBoxes: it returns true for every byte, in every world that holds the library's table. -/
import Derived.Test.YtbahdcebgcgeeaaDoorF
namespace Go.Proofs.YtbahdcebgcgeeaaDoor
open Go.RowKit

theorem setRow_alloc_new2 (w : World) (c c' : Array Value) (t : TypeId) (o : Obj) : ((w.alloc (.cells c t)).alloc o).setRow w.heap.size c' = (w.alloc (.cells c' t)).alloc o := by
  simp only [World.setRow, World.alloc]
  congr 1
  apply Array.ext_getElem?
  intro i
  rw [Array.getElem?_modify]
  by_cases h : w.heap.size = i
  · subst h
    simp [Array.getElem?_push]
  · have h' : ¬ i = w.heap.size := fun e => h e.symm
    simp [h, h', Array.getElem?_push]

/-- A store into the last block but one. -/
theorem wpList_store_new2 {P : Program} {ops : Array Oper} {rest : List Oper} {o : Oper} {a : Act} {w : World} {Q : Exit → Act → World → Prop} (hgd : o.guard = none) (ty : TypeId) (x y : Operand) (ho : o.op = .store ty x y)
    (old cells : Array Value) (ob : Obj) (hx : a.eval x = .pointer (some ⟨w.heap.size, 0, none⟩)) (hy : a.eval y = .agg cells)
    (hi : (P.info? ty).map (·.size) = some cells.size) (hold : old.size = cells.size) (h1 : cells.all (·.oneCell') = true)
    (h : wpList P ops Q rest (a.put o.dst undef) ((w.alloc (.cells cells ty)).alloc ob)) : wpList P ops Q (o :: rest) a ((w.alloc (.cells old ty)).alloc ob) := by
  refine wpList_store_row hgd ty x y ho w.heap.size cells hx hy ty old (heap_alloc2_old w _ _) hi hold h1 ?_
  rw [setRow_alloc_new2]; exact h
/-- A store into the last block, one block behind another. -/
theorem wpList_store_newB {P : Program} {ops : Array Oper} {rest : List Oper} {o : Oper} {a : Act} {w : World} {Q : Exit → Act → World → Prop} (hgd : o.guard = none) (ty : TypeId) (x y : Operand) (ho : o.op = .store ty x y)
    (old cells : Array Value) (ob : Obj) (hx : a.eval x = .pointer (some ⟨w.heap.size + 1, 0, none⟩)) (hy : a.eval y = .agg cells)
    (hi : (P.info? ty).map (·.size) = some cells.size) (hold : old.size = cells.size) (h1 : cells.all (·.oneCell') = true)
    (h : wpList P ops Q rest (a.put o.dst undef) ((w.alloc ob).alloc (.cells cells ty))) : wpList P ops Q (o :: rest) a ((w.alloc ob).alloc (.cells old ty)) := by
  refine wpList_store_new hgd ty x y ho old cells ?_ hy hi hold h1 h
  rw [hx]; simp

theorem size28k : (Tryd.prog.info? 28).map (·.size) = some (backC 256).size := by rw [backC_size]; exact size28
theorem zeroA_backC : (zeroA 256).size = (backC 256).size := by rw [backC_size]; exact Array.size_replicate

/-- How many of the first k boxes are a. -/
def cnt (a : Nat) : Nat → Nat
  | 0 => 0
  | k + 1 => if bx k = a then cnt a k + 1 else cnt a k
theorem cnt_le (a k : Nat) : cnt a k ≤ k := by
  induction k with
  | zero => exact Nat.le_refl _
  | succ k ih => unfold cnt; split <;> omega
theorem cnt_one : ∀ a, a < 256 → cnt a 256 = 1 := by decide +kernel
theorem box_facts : ∀ a, a < 256 → bk (bx a) = a ∧ bx (bk a) = a ∧ bx a ≠ a ∧ bx a ≠ 255 ^^^ a := by decide +kernel

set_option maxRecDepth 100000 in
set_option maxHeartbeats 400000 in
theorem boxes_any (a : Nat) (ha : a < 256) (w : World) (hT : TabAt w) :
    Calls Tryd.prog 4 #[.int .u8 (a : Int)] w fun e w' => e = .returned (.bool true) ∧ Below w.heap.size w w' := by
  have hz := zero28
  go_enter Tryd.func4, Tryd.ntmps4
  go_wp2_with (first
    | (go_at_call 12; refine (box_any _).mono ?_; rintro e w1 ⟨rfl, hb1⟩)
    | (go_at_call 13; refine (back_any _).mono ?_; rintro e w2 ⟨rfl, hb2⟩)
    | (refine wpList_store_new2 rfl 28 _ _ rfl (zeroA 256) boxA _ rfl rfl size28b zeroA_boxA boxA_one ?_)
    | (refine wpList_store_newB rfl 28 _ _ rfl (zeroA 256) (backC 256) _ rfl rfl size28k zeroA_backC (backC_one 256) ?_))
  obtain ⟨W, hW⟩ : ∃ W, ((w2.alloc (.cells boxA 28)).alloc (.cells (backC 256) 28)) = W := ⟨_, rfl⟩
  have hB2 : Below w.heap.size w w2 := hb1.trans (hb2.mono hb1.size)
  have HB : Below w.heap.size w W := by rw [← hW]; exact (hB2.alloc hB2.size _).alloc (by simp; have := hB2.size; omega) _
  have hbox : ∀ j, j < 256 → W.cell? ⟨w2.heap.size, j, none⟩ = some (.int .u8 (bx j : Int)) := fun j hj => by
    rw [← hW, cell_of_row _ _ _ _ _ _ (heap_alloc2_old w2 _ _)]; exact boxA_at j hj
  have hback : ∀ j, j < 256 → W.cell? ⟨w2.heap.size + 1, j, none⟩ = some (.int .u8 (bk j : Int)) := fun j hj => by
    rw [← hW, cell_of_row _ _ _ _ _ _ (heap_alloc2_new w2 _ _)]; exact backC_at j hj
  have HT := Lib.hid (hT.below HB)
  have HX := Lib.hid hbox
  have HK := Lib.hid hback
  rw [hW]
  clear hW hbox hback hT hb1 hb2 hB2 hz
  go_loop [5, 6] (fun m i => ∃ k : Nat, k ≤ 256 ∧ i = .int .i64 (k : Int) ∧ m = .int .i64 (cnt a k : Nat)) (fun _ i => 256 - (intOf i).toNat)
  case atStart => exact ⟨0, by omega, rfl, rfl⟩
  case round =>
    obtain ⟨k, hk, rfl, rfl⟩ := hrel
    have hcl := cnt_le a k
    by_cases hlt : k < 256
    · have hc := HX.out k hlt
      by_cases he : bx k = a
      · have hs := Lib.hid (show cnt a (k + 1) = cnt a k + 1 by rw [cnt, if_pos he])
        have ht : (((bx k : Nat) : Int) == (a : Int)) = true := by simp [he]
        clear he
        go_wp2
        go_round
        case rel => exact ⟨k + 1, by omega, by go_num, by rw [hs.out]; go_num⟩
        case measure => simp [intOf]; omega
      · have hs := Lib.hid (show cnt a (k + 1) = cnt a k by rw [cnt, if_neg he])
        have ht : (((bx k : Nat) : Int) == (a : Int)) = false := by rw [beq_eq_false_iff_ne]; omega
        clear he
        go_wp2
        go_round
        case rel => exact ⟨k + 1, by omega, by go_num, by rw [hs.out]⟩
        case measure => simp [intOf]; omega
    · obtain rfl : k = 256 := by omega
      have hf := box_facts a ha
      have hone : ((cnt a 256 : Nat) : Int) = 1 := by rw [cnt_one a ha]; rfl
      have hbl := bx_lt a ha
      have hkl := bk_lt a ha
      have c1 := HX.out a ha
      have c2 := HK.out a ha
      have c3 := HX.out (bk a) hkl
      have c4 := HK.out (bx a) hbl
      rw [hf.2.1] at c3
      rw [hf.1] at c4
      have n1 : (((bx a : Nat) : Int) != (a : Int)) = true := by simp only [bne_iff_ne, ne_eq]; have := hf.2.2.1; omega
      have sg : IntKind.u8.signed = false := rfl
      have hx : bits .xor .u8 IntKind.u8.max (a : Int) = ((255 ^^^ a : Nat) : Int) := u8_xor_nat 255 a (by decide) ha
      have n2 : (((bx a : Nat) : Int) != ((255 ^^^ a : Nat) : Int)) = true := by simp only [bne_iff_ne, ne_eq]; have := hf.2.2.2; omega
      clear hf hcl
      go_wp2_with (go_at_call 11; refine (wakes_any _ HT.out).mono ?_; rintro e w3 ⟨rfl, hb3⟩)
      go_ret
      exact ⟨rfl, HB.trans (hb3.mono HB.size)⟩

end Go.Proofs.YtbahdcebgcgeeaaDoor
