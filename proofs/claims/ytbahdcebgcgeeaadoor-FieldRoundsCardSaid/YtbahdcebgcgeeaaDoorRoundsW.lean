/- The walk of FieldRounds. -/
import Derived.Test.YtbahdcebgcgeeaaDoorQ
import Derived.Test.YtbahdcebgcgeeaaDoorF
import Derived.Test.YtbahdcebgcgeeaaDoorS
import Derived.Test.YtbahdcebgcgeeaaDoorV
import Derived.Deep.RegionHeld3
import Derived.Lib.QuoteBits
import Derived.Deep.QuietTactic
import Derived.BigQuiet
namespace Go.Proofs.YtbahdcebgcgeeaaDoor
open Go.RowKit

/-- The frame behind the first statement. -/
theorem frameQ (f ky ot : Nat → Nat) (g3 g4 g5 g7 g8 g9 : Nat) (s : Nat → Value)
    (hfix : ∀ t, fixedQ t = true → s t = ((#[Value.agg (arr 16 f), Value.agg (arr 16 ky), Value.agg (arr 16 ot), Value.pointer (some ⟨g3, 0, none⟩), Value.pointer (some ⟨g4, 0, none⟩), Value.pointer (some ⟨g5, 0, none⟩), Value.bool false, undef, undef, undef, undef, undef, undef, undef, undef, undef, undef, undef, undef, undef, undef, undef, undef, undef, undef, undef, undef, undef, undef, undef, undef, undef, undef, undef, undef, undef, undef, undef, undef, undef, undef, undef, undef, undef, undef, undef, undef, undef, undef, undef, undef, undef, undef, undef, undef, undef, undef, undef, undef, undef, undef, undef, undef, undef, undef, undef, undef, undef, undef, undef, undef, undef, undef, undef, undef, undef, undef, undef, undef, undef, undef, undef, undef, undef, undef, undef, undef, undef, undef, undef, undef, undef, undef, undef, undef, undef, undef, undef, undef, undef, undef, undef, undef, undef, undef, undef, undef, undef, undef, undef, undef, undef, undef, undef, undef, undef, undef, undef, undef, undef, undef, undef, undef, undef, undef] : Array Value).getD t undef))
    (h7 : s 7 = .pointer (some ⟨g7, 0, none⟩)) (h8 : s 8 = .pointer (some ⟨g8, 0, none⟩)) (h9 : s 9 = .pointer (some ⟨g9, 0, none⟩)) :
    mkA 125 s = { tmps := #[Value.agg (arr 16 f), Value.agg (arr 16 ky), Value.agg (arr 16 ot), Value.pointer (some ⟨g3, 0, none⟩), Value.pointer (some ⟨g4, 0, none⟩), Value.pointer (some ⟨g5, 0, none⟩), Value.bool false, Value.pointer (some ⟨g7, 0, none⟩), Value.pointer (some ⟨g8, 0, none⟩), Value.pointer (some ⟨g9, 0, none⟩), undef, undef, undef, undef, undef, s 15, s 16, s 17, s 18, s 19, s 20, s 21, s 22, s 23, undef, undef, undef, undef, undef, undef, undef, undef, undef, undef, undef, undef, undef, undef, undef, undef, undef, undef, undef, undef, undef, undef, undef, undef, undef, undef, undef, undef, undef, undef, undef, undef, undef, undef, undef, undef, undef, undef, undef, undef, undef, undef, undef, undef, undef, undef, undef, undef, undef, undef, undef, undef, undef, undef, undef, undef, undef, undef, undef, undef, undef, undef, undef, undef, undef, undef, undef, undef, undef, undef, undef, undef, undef, undef, undef, undef, undef, undef, undef, undef, undef, undef, undef, undef, undef, undef, undef, undef, undef, undef, undef, undef, undef, undef, undef, undef, undef, undef, undef, undef, undef], defers := [] } := by
  have h : s = fun t => if fixedQ t = true then ((#[Value.agg (arr 16 f), Value.agg (arr 16 ky), Value.agg (arr 16 ot), Value.pointer (some ⟨g3, 0, none⟩), Value.pointer (some ⟨g4, 0, none⟩), Value.pointer (some ⟨g5, 0, none⟩), Value.bool false, undef, undef, undef, undef, undef, undef, undef, undef, undef, undef, undef, undef, undef, undef, undef, undef, undef, undef, undef, undef, undef, undef, undef, undef, undef, undef, undef, undef, undef, undef, undef, undef, undef, undef, undef, undef, undef, undef, undef, undef, undef, undef, undef, undef, undef, undef, undef, undef, undef, undef, undef, undef, undef, undef, undef, undef, undef, undef, undef, undef, undef, undef, undef, undef, undef, undef, undef, undef, undef, undef, undef, undef, undef, undef, undef, undef, undef, undef, undef, undef, undef, undef, undef, undef, undef, undef, undef, undef, undef, undef, undef, undef, undef, undef, undef, undef, undef, undef, undef, undef, undef, undef, undef, undef, undef, undef, undef, undef, undef, undef, undef, undef, undef, undef, undef, undef, undef, undef] : Array Value).getD t undef) else if t = 7 then .pointer (some ⟨g7, 0, none⟩) else if t = 8 then .pointer (some ⟨g8, 0, none⟩) else if t = 9 then .pointer (some ⟨g9, 0, none⟩) else s t := by
    funext t
    split
    · exact hfix t (by assumption)
    split
    · subst t; exact h7
    split
    · subst t; exact h8
    split
    · subst t; exact h9
    rfl
  refine (congrArg (mkA 125) h).trans ?_
  kernel_rfl


/-- What stands at the loops: the five blocks that they read and write. -/
structure St (w : World) (g4 g5 g7 g8 g9 : Nat) (ky ot A B C : Nat → Nat) (W : World) : Prop where
  b4 : Blk W g4 38 16 ky
  b5 : Blk W g5 38 16 ot
  b7 : Blk W g7 38 16 A
  b8 : Blk W g8 38 16 B
  b9 : Blk W g9 38 16 C
  below : Below w.heap.size w W
  ne : w.heap.size ≤ g9 ∧ g4 ≠ g9 ∧ g5 ≠ g9 ∧ g7 ≠ g9 ∧ g8 ≠ g9
theorem below_drewN {B : Nat} {w w' : World} (h : Below B w w') (n : Nat) : Below B w (w'.drewN n) := ⟨h.os, h.tape, h.output, h.size, h.block⟩
theorem St.drewN {w : World} {g4 g5 g7 g8 g9 : Nat} {ky ot A B C : Nat → Nat} {W : World} (h : St w g4 g5 g7 g8 g9 ky ot A B C W) (n : Nat) : St w g4 g5 g7 g8 g9 ky ot A B C (W.drewN n) :=
  ⟨h.b4, h.b5, h.b7, h.b8, h.b9, below_drewN h.below n, h.ne⟩
theorem St.set {w : World} {g4 g5 g7 g8 g9 : Nat} {ky ot A B C C' : Nat → Nat} {W : World} (h : St w g4 g5 g7 g8 g9 ky ot A B C W) (i v : Nat) (hC : ∀ j, j < 16 → upd C i v j = C' j) :
    St w g4 g5 g7 g8 g9 ky ot A B C' (W.setCell ⟨g9, i, none⟩ (.int .u8 (v : Int))) :=
  ⟨h.b4.other _ _ h.ne.2.1, h.b5.other _ _ h.ne.2.2.1, h.b7.other _ _ h.ne.2.2.2.1, h.b8.other _ _ h.ne.2.2.2.2, (h.b9.set i v).congr hC, h.below.setCell h.ne.1 _, h.ne⟩
theorem St.alloc {w : World} {g4 g5 g7 g8 g9 : Nat} {ky ot A B C : Nat → Nat} {W : World} (h : St w g4 g5 g7 g8 g9 ky ot A B C W) (o : Obj) : St w g4 g5 g7 g8 g9 ky ot A B C (W.alloc o) :=
  ⟨h.b4.alloc o, h.b5.alloc o, h.b7.alloc o, h.b8.alloc o, h.b9.alloc o, h.below.alloc h.below.size o, h.ne⟩
theorem St.grown {w : World} {g4 g5 g7 g8 g9 : Nat} {ky ot A B C : Nat → Nat} {W W' : World} (h : St w g4 g5 g7 g8 g9 ky ot A B C W) (hb : Below W.heap.size W W') : St w g4 g5 g7 g8 g9 ky ot A B C W' :=
  ⟨h.b4.grown hb, h.b5.grown hb, h.b7.grown hb, h.b8.grown hb, h.b9.grown hb, h.below.trans (hb.mono h.below.size), h.ne⟩
/-- What a column's reads look at. -/
abbrev S5 (w : World) (g4 g5 g7 g8 g9 : Nat) (ky ot A B C : Nat → Nat) (i0 i1 i2 i3 : Nat) (W : World) : Prop :=
  St w g4 g5 g7 g8 g9 ky ot A B C W ∧ W.cell? ⟨g9, i0, none⟩ = some (.int .u8 (C i0 : Int)) ∧ W.cell? ⟨g9, i1, none⟩ = some (.int .u8 (C i1 : Int)) ∧ W.cell? ⟨g9, i2, none⟩ = some (.int .u8 (C i2 : Int)) ∧ W.cell? ⟨g9, i3, none⟩ = some (.int .u8 (C i3 : Int))
theorem five {w : World} {g4 g5 g7 g8 g9 : Nat} {ky ot A B C : Nat → Nat} {i0 i1 i2 i3 : Nat} {W : World} (hl : i0 < 16 ∧ i1 < 16 ∧ i2 < 16 ∧ i3 < 16) (h : St w g4 g5 g7 g8 g9 ky ot A B C W) : S5 w g4 g5 g7 g8 g9 ky ot A B C i0 i1 i2 i3 W :=
  ⟨h, h.b9.cell _ hl.1, h.b9.cell _ hl.2.1, h.b9.cell _ hl.2.2.1, h.b9.cell _ hl.2.2.2⟩
theorem five_call {w : World} {g4 g5 g7 g8 g9 : Nat} {ky ot A B C : Nat → Nat} {i0 i1 i2 i3 : Nat} {W W' : World} (hl : i0 < 16 ∧ i1 < 16 ∧ i2 < 16 ∧ i3 < 16) (hb : Below W.heap.size W W') (h : S5 w g4 g5 g7 g8 g9 ky ot A B C i0 i1 i2 i3 W) : S5 w g4 g5 g7 g8 g9 ky ot A B C i0 i1 i2 i3 W' :=
  five hl (h.1.grown hb)
theorem five_alloc {w : World} {g4 g5 g7 g8 g9 : Nat} {ky ot A B C : Nat → Nat} {i0 i1 i2 i3 : Nat} {W : World} (hl : i0 < 16 ∧ i1 < 16 ∧ i2 < 16 ∧ i3 < 16) (o : Obj) (h : S5 w g4 g5 g7 g8 g9 ky ot A B C i0 i1 i2 i3 W) : S5 w g4 g5 g7 g8 g9 ky ot A B C i0 i1 i2 i3 (W.alloc o) :=
  five hl (h.1.alloc o)
theorem arr4 (f : Nat → Nat) : arr 4 f = #[.int .u8 (f 0 : Int), .int .u8 (f 1 : Int), .int .u8 (f 2 : Int), .int .u8 (f 3 : Int)] := by
  simp [arr, List.range_succ]
theorem alloc4 {W w2 : World} {a b c d : Value} (hb : Below (W.alloc (.cells #[a, b, c, d] 37)).drew.heap.size (W.alloc (.cells #[a, b, c, d] 37)).drew w2) :
    (w2.cell? ⟨W.heap.size, 0, none⟩ = some a ∧ w2.cell? ⟨W.heap.size, 1, none⟩ = some b ∧ w2.cell? ⟨W.heap.size, 2, none⟩ = some c ∧ w2.cell? ⟨W.heap.size, 3, none⟩ = some d) ∧
    w2.frozen? ⟨W.heap.size, 0, none⟩ = false ∧ w2.frozen? ⟨W.heap.size, 1, none⟩ = false ∧ w2.frozen? ⟨W.heap.size, 2, none⟩ = false ∧ w2.frozen? ⟨W.heap.size, 3, none⟩ = false := by
  have h : w2.heap[W.heap.size]? = some (.cells #[a, b, c, d] 37 (0, 0)) := (hb.block W.heap.size (by simp [World.drew])).trans (heap_alloc_new W _)
  refine ⟨⟨?_, ?_, ?_, ?_⟩, frozen_of_row _ _ 0 _ _ h, frozen_of_row _ _ 1 _ _ h, frozen_of_row _ _ 2 _ _ h, frozen_of_row _ _ 3 _ _ h⟩ <;> rw [cell_of_row _ _ _ _ _ _ h] <;> rfl
theorem St.over {w : World} {g4 g5 g7 g8 g9 : Nat} {ky ot A B C : Nat → Nat} {W : World} (h : St w g4 g5 g7 g8 g9 ky ot A B C W) (a : Addr) (v : Value) (hg : g4 ≠ a.block ∧ g5 ≠ a.block ∧ g7 ≠ a.block ∧ g8 ≠ a.block ∧ g9 ≠ a.block ∧ w.heap.size ≤ a.block) : St w g4 g5 g7 g8 g9 ky ot A B C (W.setCell a v) :=
  ⟨h.b4.other _ _ hg.1, h.b5.other _ _ hg.2.1, h.b7.other _ _ hg.2.2.1, h.b8.other _ _ hg.2.2.2.1, h.b9.other _ _ hg.2.2.2.2.1, h.below.setCell hg.2.2.2.2.2 _, h.ne⟩
theorem five_store4 {w : World} {g4 g5 g7 g8 g9 : Nat} {ky ot A B C : Nat → Nat} {i0 i1 i2 i3 : Nat} {W w2 : World} {o : Obj} (p q r s : Value) (hl : i0 < 16 ∧ i1 < 16 ∧ i2 < 16 ∧ i3 < 16) (h : St w g4 g5 g7 g8 g9 ky ot A B C W) (hb : Below (W.alloc o).drew.heap.size (W.alloc o).drew w2) :
    S5 w g4 g5 g7 g8 g9 ky ot A B C i0 i1 i2 i3 ((((w2.setCell ⟨W.heap.size, 0, none⟩ p).setCell ⟨W.heap.size, 1, none⟩ q).setCell ⟨W.heap.size, 2, none⟩ r).setCell ⟨W.heap.size, 3, none⟩ s) := by
  have h2 : St w g4 g5 g7 g8 g9 ky ot A B C w2 := ((h.alloc o).drewN 1).grown hb
  have l4 := h.b4.lt
  have l5 := h.b5.lt
  have l7 := h.b7.lt
  have l8 := h.b8.lt
  have l9 := h.b9.lt
  have ls := h.below.size
  have hg : g4 ≠ W.heap.size ∧ g5 ≠ W.heap.size ∧ g7 ≠ W.heap.size ∧ g8 ≠ W.heap.size ∧ g9 ≠ W.heap.size ∧ w.heap.size ≤ W.heap.size := by omega
  exact five hl ((((h2.over _ _ hg).over _ _ hg).over _ _ hg).over _ _ hg)
theorem store4_blk {W w2 : World} (m : Nat → Nat) (hb : Below (W.alloc (.cells #[.int .u8 0, .int .u8 0, .int .u8 0, .int .u8 0] 37)).drew.heap.size (W.alloc (.cells #[.int .u8 0, .int .u8 0, .int .u8 0, .int .u8 0] 37)).drew w2) :
    Blk ((((w2.setCell ⟨W.heap.size, 0, none⟩ (.int .u8 (m 0 : Int))).setCell ⟨W.heap.size, 1, none⟩ (.int .u8 (m 1 : Int))).setCell ⟨W.heap.size, 2, none⟩ (.int .u8 (m 2 : Int))).setCell ⟨W.heap.size, 3, none⟩ (.int .u8 (m 3 : Int))) W.heap.size 37 4 m := by
  have h : Blk w2 W.heap.size 37 4 (fun _ => 0) := by
    unfold Blk
    rw [arr4]
    exact (hb.block W.heap.size (by simp [World.drew])).trans (heap_alloc_new W _)
  refine ((((h.set 0 (m 0)).set 1 (m 1)).set 2 (m 2)).set 3 (m 3)).congr fun i hi => ?_
  rcases (by omega : i = 0 ∨ i = 1 ∨ i = 2 ∨ i = 3) with rfl | rfl | rfl | rfl <;> simp [upd]
theorem lit4_blk (W : World) (m : Nat → Nat) : Blk (W.alloc (.cells #[.int .u8 (m 0 : Int), .int .u8 (m 1 : Int), .int .u8 (m 2 : Int), .int .u8 (m 3 : Int)] 37)) W.heap.size 37 4 m := by
  rw [← arr4]; exact Blk.new W 37 4 m
/-- The last round's block, when k of its bytes have lost their key. -/
def lU (C ky : Nat → Nat) (k : Nat) : Nat → Nat := fun i => if i < k then C i ^^^ ky i else C i
theorem lU_step (C ky : Nat → Nat) (k : Nat) (j : Nat) (_ : j < 16) : upd (lU C ky k) k (C k ^^^ ky k) j = lU C ky (k + 1) j := by
  unfold upd lU
  by_cases h : j = k
  · subst h; simp
  · have h2 : j < k + 1 ↔ j < k := by omega
    simp [h, h2]
theorem lU_at (C ky : Nat → Nat) (k : Nat) : lU C ky k k = C k := by simp [lU]

set_option maxRecDepth 100000 in
set_option maxHeartbeats 4000000 in
theorem rounds_any (f ky ot : Nat → Nat) (hf : ∀ i, f i < 256) (hky : ∀ i, ky i < 256) (hot : ∀ i, ot i < 256) (w : World) (hT : TabAt w) :
    Calls Tryd.prog 8 #[.agg (arr 16 f), .agg (arr 16 ky), .agg (arr 16 ot)] w fun e W' => e = .returned (.bool true) ∧ Below w.heap.size w W' := by
  go_enter Tryd.func8, Tryd.ntmps8
  go_wp2
  obtain ⟨W0, hW0⟩ : ∃ W0, (((w.alloc (.cells (arr 16 f) 38)).alloc (.cells (arr 16 ky) 38)).alloc (.cells (arr 16 ot) 38)) = W0 := ⟨_, rfl⟩
  obtain ⟨g3, hg3⟩ : ∃ g, w.heap.size = g := ⟨_, rfl⟩
  obtain ⟨g4, hg4⟩ : ∃ g, g3 + 1 = g := ⟨_, rfl⟩
  obtain ⟨g5, hg5⟩ : ∃ g, g4 + 1 = g := ⟨_, rfl⟩
  have hB : Below w.heap.size w W0 := by
    rw [← hW0]
    exact (((Below.refl _ w).alloc (Nat.le_refl _) _).alloc (by simp) _).alloc (by simp; omega) _
  have b3 : Blk W0 g3 38 16 f := by rw [← hW0, ← hg3]; exact ((Blk.new w 38 16 f).alloc _).alloc _
  have b4 : Blk W0 g4 38 16 ky := by
    have := (Blk.new (w.alloc (.cells (arr 16 f) 38)) 38 16 ky).alloc (.cells (arr 16 ot) 38)
    rw [hW0] at this; rw [← hg4, ← hg3]; simpa using this
  have b5 : Blk W0 g5 38 16 ot := by
    have := Blk.new ((w.alloc (.cells (arr 16 f) 38)).alloc (.cells (arr 16 ky) 38)) 38 16 ot
    rw [hW0] at this; rw [← hg5, ← hg4, ← hg3]; simpa using this
  rw [hW0, hg3, hg4, hg5]
  clear hW0
  refine wp_region_open (by kernel_rfl) (by kernel_rfl) (by kernel_rfl) (QInv f ky ot W0.drew (fun t => (#[Value.agg (arr 16 f), Value.agg (arr 16 ky), Value.agg (arr 16 ot), Value.pointer (some ⟨g3, 0, none⟩), Value.pointer (some ⟨g4, 0, none⟩), Value.pointer (some ⟨g5, 0, none⟩), Value.bool false, undef, undef, undef, undef, undef, undef, undef, undef, undef, undef, undef, undef, undef, undef, undef, undef, undef, undef, undef, undef, undef, undef, undef, undef, undef, undef, undef, undef, undef, undef, undef, undef, undef, undef, undef, undef, undef, undef, undef, undef, undef, undef, undef, undef, undef, undef, undef, undef, undef, undef, undef, undef, undef, undef, undef, undef, undef, undef, undef, undef, undef, undef, undef, undef, undef, undef, undef, undef, undef, undef, undef, undef, undef, undef, undef, undef, undef, undef, undef, undef, undef, undef, undef, undef, undef, undef, undef, undef, undef, undef, undef, undef, undef, undef, undef, undef, undef, undef, undef, undef, undef, undef, undef, undef, undef, undef, undef, undef, undef, undef, undef, undef, undef, undef, undef, undef, undef, undef] : Array Value).getD t undef)) ?start (fun L a w1 i o ho hLi hed hI => q_step f ky ot hf hky hot W0.drew g3 g4 g5 b3 b4 b5 _ rfl rfl rfl _ L a w1 i o ho hLi hed hI) ?done
  case start =>
    refine ⟨Below.refl _ _, _, 0, 0, 0, rfl, fun _ _ => rfl, ?_⟩
    refine ⟨?_, ?_, ?_, ?_, ?_, ?_, ?_, ?_, ?_, ?_, ?_, ?_, ?_, ?_, ?_, ?_, ?_, ?_⟩ <;> (intro h; cases h)
  case done =>
    intro L a w1 hL hI
    obtain ⟨hB1, s, g7, g8, g9, rfl, hfix, _, _, _, _, _, _, _, _, _, a7, a8, a9, n1, n2, n3, _, _, _⟩ := hI
    have c7 := a7 (hL 9 (by decide))
    have c8 := a8 (hL 10 (by decide))
    have c9 := a9 (hL 11 (by decide))
    rw [if_pos (hL 12 (by decide))] at c7
    rw [if_pos (hL 13 (by decide))] at c8
    rw [if_pos (hL 14 (by decide))] at c9
    have n78 := n1 (hL 9 (by decide)) (hL 10 (by decide))
    have n79 := n2 (hL 9 (by decide)) (hL 11 (by decide))
    have n89 := n3 (hL 10 (by decide)) (hL 11 (by decide))
    rw [frameQ f ky ot g3 g4 g5 g7 g8 g9 s hfix c7.1 c8.1 c9.1]
    obtain ⟨A, hA⟩ : ∃ A, rnd mixF f ky = A := ⟨_, rfl⟩
    obtain ⟨B, hBB⟩ : ∃ B, rnd mixF f ot = B := ⟨_, rfl⟩
    obtain ⟨C, hC⟩ : ∃ C, rnd sameF f ky = C := ⟨_, rfl⟩
    have lA : ∀ i, A i < 256 := fun i => by rw [← hA]; exact rnd_lt mixF f ky mixF_lt hf hky i
    have lB : ∀ i, B i < 256 := fun i => by rw [← hBB]; exact rnd_lt mixF f ot mixF_lt hf hot i
    have lC : ∀ i, C i < 256 := fun i => by rw [← hC]; exact rnd_lt sameF f ky (fun _ h => h) hf hky i
    have hAB : ∀ i, A i ^^^ B i = ky i ^^^ ot i := fun i => by rw [← hA, ← hBB]; exact rnd_two mixF f ky ot i
    have hCs : ∀ i, C i ^^^ ky i = shf f i := fun i => by rw [← hC]; exact rnd_same f ky i
    have hAc : ∀ c r i, r < 4 → 4 * c + r = i → A i = mixF (col (shf f) c) r ^^^ ky i := fun c r i h1 h2 => by rw [← hA]; exact rnd_col mixF f ky c r i h1 h2
    rw [hA] at c7
    rw [hBB] at c8
    rw [hC] at c9
    have HS : St w g4 g5 g7 g8 g9 ky ot A B C w1 := ⟨Blk.below (W := W0.drew) b4 hB1 b4.lt, Blk.below (W := W0.drew) b5 hB1 b5.lt, c7.2.2, c8.2.2, c9.2.2, (hB.drew).trans (hB1.mono hB.size), by have := hB.size; have := c9.2.1; simp at this; omega, by have := b4.lt; have := c9.2.1; simp at this; omega, by have := b5.lt; have := c9.2.1; simp at this; omega, n79, n89⟩
    have HF := Lib.hid (⟨hf, hky, hot, lA, lB, lC, hAB, hCs, hAc⟩ : (∀ i, f i < 256) ∧ (∀ i, ky i < 256) ∧ (∀ i, ot i < 256) ∧ (∀ i, A i < 256) ∧ (∀ i, B i < 256) ∧ (∀ i, C i < 256) ∧ (∀ i, A i ^^^ B i = ky i ^^^ ot i) ∧ (∀ i, C i ^^^ ky i = shf f i) ∧ (∀ c r i, r < 4 → 4 * c + r = i → A i = mixF (col (shf f) c) r ^^^ ky i))
    have HT := Lib.hid hT
    generalize s 15 = s15
    generalize s 16 = s16
    generalize s 17 = s17
    generalize s 18 = s18
    generalize s 19 = s19
    generalize s 20 = s20
    generalize s 21 = s21
    generalize s 22 = s22
    generalize s 23 = s23
    clear hf hky hot lA lB lC hAB hCs hAc hT hA hBB hC c7 c8 c9 n1 n2 n3 a7 a8 a9 hfix hL n78 n79 n89 hB1 hB b3 b4 b5
    clear hg3 hg4 hg5
    go_wp2
    go_loopw [10] (fun i wr => ∃ k : Nat, k ≤ 16 ∧ i = .int .i64 (k : Int) ∧ St w g4 g5 g7 g8 g9 ky ot A B (lU C ky k) wr) (fun i _ => 16 - (intOf i).toNat)
    case atStart => exact ⟨0, by omega, rfl, HS.b4, HS.b5, HS.b7, HS.b8, HS.b9.congr (fun i _ => by simp [lU]), HS.below, HS.ne⟩
    case round =>
      obtain ⟨k, hk, rfl, hS⟩ := hrel
      by_cases hlt : k < 16
      · have c4 := hS.b4.cell k hlt
        have c5 := hS.b5.cell k hlt
        have c7 := hS.b7.cell k hlt
        have c8 := hS.b8.cell k hlt
        have c9 := hS.b9.cell k hlt
        rw [lU_at] at c9
        have f9 := hS.b9.frozen k
        have x1 := u8_xor_nat (A k) (B k) (HF.out.2.2.2.1 k) (HF.out.2.2.2.2.1 k)
        rw [HF.out.2.2.2.2.2.2.1 k] at x1
        have x2 := u8_xor_nat (ky k) (ot k) (HF.out.2.1 k) (HF.out.2.2.1 k)
        have x3 := u8_xor_nat (C k) (ky k) (HF.out.2.2.2.2.2.1 k) (HF.out.2.1 k)
        have HS2 := Lib.hid hS
        clear hS HS
        go_wp2
        go_quiet (fail)
        go_wp2
        go_region
        all_goals go_wp2
        all_goals go_roundw
        case rel => exact ⟨k + 1, by omega, by go_num, (HS2.out.drewN _).set k _ (lU_step C ky k)⟩
        case measure => simp [intOf]; omega
      · have hk16 : k = 16 := by omega
        have hS2 : St w g4 g5 g7 g8 g9 ky ot A B (shf f) wr := ⟨hS.b4, hS.b5, hS.b7, hS.b8, hS.b9.congr (fun i hi => by rw [lU, if_pos (by omega)]; exact HF.out.2.2.2.2.2.2.2.1 i), hS.below, hS.ne⟩
        have HS3 := Lib.hid hS2
        clear hS hS2 HS hk16
        have hl : ∀ i, shf f i < 256 := shf_lt f HF.out.1
        have hAc := HF.out.2.2.2.2.2.2.2.2
        have lky := HF.out.2.1
        have lA := HF.out.2.2.2.1
        obtain ⟨l, hlf⟩ : ∃ l, shf f = l := ⟨_, rfl⟩
        rw [hlf] at HS3 hl hAc
        have HG := Lib.hid (⟨hl, lky, lA, hAc⟩ : (∀ i, l i < 256) ∧ (∀ i, ky i < 256) ∧ (∀ i, A i < 256) ∧ (∀ c r i, r < 4 → 4 * c + r = i → A i = mixF (col l c) r ^^^ ky i))
        clear hl hAc lky lA hlf HF
        go_wp2
        go_loopw [11] (fun i wr => ∃ k : Nat, k ≤ 4 ∧ i = .int .i64 (k : Int) ∧ St w g4 g5 g7 g8 g9 ky ot A B l wr) (fun i _ => 4 - (intOf i).toNat)
        case atStart => exact ⟨0, by omega, rfl, HS3.out⟩
        case round =>
          clear HS3
          obtain ⟨c, hc, rfl, hS⟩ := hrel
          by_cases hlt : c < 4
          · have HS := Lib.hid hS
            clear hS
            obtain ⟨i0, hi0⟩ : ∃ i, 4 * c = i := ⟨_, rfl⟩
            obtain ⟨i1, hi1⟩ : ∃ i, i0 + 1 = i := ⟨_, rfl⟩
            obtain ⟨i2, hi2⟩ : ∃ i, i0 + 2 = i := ⟨_, rfl⟩
            obtain ⟨i3, hi3⟩ : ∃ i, i0 + 3 = i := ⟨_, rfl⟩
            have e0 : (4 : Int) * (c : Int) = (i0 : Int) := by omega
            have e1 : (i0 : Int) + 1 = (i1 : Int) := by omega
            have e2 : (i0 : Int) + 2 = (i2 : Int) := by omega
            have e3 : (i0 : Int) + 3 = (i3 : Int) := by omega
            have hb4 : i0 < 16 ∧ i1 < 16 ∧ i2 < 16 ∧ i3 < 16 := by omega
            have HL := Lib.hid hb4
            have lt0 : (i0 : Int) < 16 := by omega
            have lt1 : (i1 : Int) < 16 := by omega
            have lt2 : (i2 : Int) < 16 := by omega
            have lt3 : (i3 : Int) < 16 := by omega
            have wr0 : IntKind.i64.wrap (i0 : Int) = (i0 : Int) := Lib.wrap_i64_small i0 (by omega)
            have wr1 : IntKind.i64.wrap (i1 : Int) = (i1 : Int) := Lib.wrap_i64_small i1 (by omega)
            have wr2 : IntKind.i64.wrap (i2 : Int) = (i2 : Int) := Lib.wrap_i64_small i2 (by omega)
            have wr3 : IntKind.i64.wrap (i3 : Int) = (i3 : Int) := Lib.wrap_i64_small i3 (by omega)
            clear hb4
            obtain ⟨m, hm⟩ : ∃ m, mixF (col l c) = m := ⟨_, rfl⟩
            have hcol : ∀ i, col l c i < 256 := fun i => HG.out.1 _
            have ecol : arr 4 (col l c) = #[.int .u8 (l i0 : Int), .int .u8 (l i1 : Int), .int .u8 (l i2 : Int), .int .u8 (l i3 : Int)] := by
              rw [arr4, ← hi1, ← hi2, ← hi3, ← hi0]; rfl
            have hmix : ∀ w', Calls Tryd.prog 18 #[.agg #[.int .u8 (l i0 : Int), .int .u8 (l i1 : Int), .int .u8 (l i2 : Int), .int .u8 (l i3 : Int)]] w' fun e w'' => e = .returned (.agg #[.int .u8 (m 0 : Int), .int .u8 (m 1 : Int), .int .u8 (m 2 : Int), .int .u8 (m 3 : Int)]) ∧ Below w'.heap.size w' w'' := fun w' => by
              have h := mix_any (col l c) hcol w'
              rw [ecol, hm, arr4 m] at h
              exact h
            have HM := Lib.hid hm
            have HC := Lib.hid hcol
            have HE := Lib.hid ecol
            have HI := Lib.hid hi0
            have z := zero37
            simp only [arr4] at z
            clear hm hcol ecol hi0 hi1 hi2 hi3
            go_wp2
            go_region_held3 (fun w' => S5 w g4 g5 g7 g8 g9 ky ot A B l i0 i1 i2 i3 w')
              (first | exact five HL.out (HS.out.drewN 1) | exact five HL.out ((HS.out.alloc _).drewN 1) | (apply five_call HL.out; assumption; assumption) | (apply five_alloc HL.out; assumption) | (apply five_store4 _ _ _ _ HL.out HS.out; assumption) | (apply five_alloc HL.out; apply five_call HL.out; assumption; exact five HL.out (HS.out.drewN 1)))
              (first | (go_at_call 18; refine (hmix _).mono ?_; rintro e w2 ⟨rfl, hb⟩; first | (have fz := alloc4 hb) | skip))
            all_goals first
              | (have hB12 := store4_blk m hb
                 have hS2 := (five_store4 (.int .u8 (m 0 : Int)) (.int .u8 (m 1 : Int)) (.int .u8 (m 2 : Int)) (.int .u8 (m 3 : Int)) HL.out HS.out hb).1
                 obtain ⟨g12, hg12⟩ : ∃ g, wr.heap.size = g := ⟨_, rfl⟩
                 rw [hg12] at hB12 hS2 ⊢
                 obtain ⟨W2, hW2⟩ : ∃ W, ((((w2.setCell ⟨g12, 0, none⟩ (.int .u8 (m 0 : Int))).setCell ⟨g12, 1, none⟩ (.int .u8 (m 1 : Int))).setCell ⟨g12, 2, none⟩ (.int .u8 (m 2 : Int))).setCell ⟨g12, 3, none⟩ (.int .u8 (m 3 : Int))) = W := ⟨_, rfl⟩
                 rw [hW2] at hB12 hS2 ⊢
                 clear hW2)
              | (have hB12 := lit4_blk w2 m
                 have hS2 := ((five_call HL.out hb (five HL.out (HS.out.drewN 1))).1).alloc (.cells #[.int .u8 (m 0 : Int), .int .u8 (m 1 : Int), .int .u8 (m 2 : Int), .int .u8 (m 3 : Int)] 37)
                 obtain ⟨g12, hg12⟩ : ∃ g, w2.heap.size = g := ⟨_, rfl⟩
                 rw [hg12] at hB12 ⊢
                 obtain ⟨W2, hW2⟩ : ∃ W, (w2.alloc (.cells #[.int .u8 (m 0 : Int), .int .u8 (m 1 : Int), .int .u8 (m 2 : Int), .int .u8 (m 3 : Int)] 37)) = W := ⟨_, rfl⟩
                 rw [hW2] at hB12 hS2 ⊢
                 clear hW2)
            all_goals
              (have HS2 := Lib.hid hS2
               have HB12 := Lib.hid hB12
               clear hS2 hB12 hg12 hb hmix HS
               go_wp2
               go_region_held3 (fun w' => S5 w g4 g5 g7 g8 g9 ky ot A B l i0 i1 i2 i3 w')
                 (first | exact five HL.out (HS2.out.drewN 1) | exact five HL.out ((HS2.out.alloc _).drewN 1))
                 (fail)
               have hB13 : Blk (W2.alloc (.cells #[.int .u8 (l i0 : Int), .int .u8 (l i1 : Int), .int .u8 (l i2 : Int), .int .u8 (l i3 : Int)] 37)).drew W2.heap.size 37 4 (col l c) := by
                 rw [← HE.out]; exact Blk.new W2 37 4 (col l c)
               have hB12 : Blk (W2.alloc (.cells #[.int .u8 (l i0 : Int), .int .u8 (l i1 : Int), .int .u8 (l i2 : Int), .int .u8 (l i3 : Int)] 37)).drew g12 37 4 m := HB12.out.alloc _
               have hS3 := (HS2.out.alloc (.cells #[.int .u8 (l i0 : Int), .int .u8 (l i1 : Int), .int .u8 (l i2 : Int), .int .u8 (l i3 : Int)] 37)).drewN 1
               obtain ⟨g13, hg13⟩ : ∃ g, W2.heap.size = g := ⟨_, rfl⟩
               obtain ⟨W3, hW3⟩ : ∃ W, (W2.alloc (.cells #[.int .u8 (l i0 : Int), .int .u8 (l i1 : Int), .int .u8 (l i2 : Int), .int .u8 (l i3 : Int)] 37)).drew = W := ⟨_, rfl⟩
               have hS3 : St w g4 g5 g7 g8 g9 ky ot A B l W3 := by rw [← hW3]; exact hS3
               rw [hg13, hW3] at hB13
               rw [hW3] at hB12
               rw [hg13, hW3]
               have HS3 := Lib.hid hS3
               have H12 := Lib.hid hB12
               have H13 := Lib.hid hB13
               clear hB13 hB12 hS3 hg13 hW3 HS2 HB12 z e1 e2 e3 wr1 wr2 wr3 lt1 lt2 lt3
               go_wp2
               go_loopw [14] (fun i wr => ∃ r : Nat, r ≤ 4 ∧ i = .int .i64 (r : Int) ∧ St w g4 g5 g7 g8 g9 ky ot A B l wr ∧ Blk wr g12 37 4 m ∧ Blk wr g13 37 4 (col l c)) (fun i _ => 4 - (intOf i).toNat)
               case atStart => exact ⟨0, by omega, rfl, HS3.out, H12.out, H13.out⟩
               case round =>
                 clear HS3 H12 H13
                 obtain ⟨r, hr, rfl, hS, h12, h13⟩ := hrel
                 by_cases hrl : r < 4
                 · obtain ⟨j, hj⟩ : ∃ j, 4 * c + r = j := ⟨_, rfl⟩
                   have hi0 := HI.out
                   have ej : (i0 : Int) + (r : Int) = (j : Int) := by omega
                   have ltj : (j : Int) < 16 := by omega
                   have wrj : IntKind.i64.wrap (j : Int) = (j : Int) := Lib.wrap_i64_small j (by omega)
                   have c7 := hS.b7.cell j (by omega)
                   have c4 := hS.b4.cell j (by omega)
                   have cm := h12.cell r hrl
                   have hm := HM.out
                   have x1 := u8_xor_nat (m r) (ky j) (by rw [← hm]; exact mixF_lt _ HC.out r) (HG.out.2.1 j)
                   rw [show m r ^^^ ky j = A j by rw [HG.out.2.2.2 c r j hrl hj, hm]] at x1
                   have HS := Lib.hid hS
                   have H12 := Lib.hid h12
                   have H13 := Lib.hid h13
                   clear hS h12 h13 hi0 hj hm
                   go_wp2
                   go_quiet (fail)
                   go_wp2
                   go_roundw
                   case rel => exact ⟨r + 1, by omega, by go_num, HS.out.drewN _, H12.out, H13.out⟩
                   case measure => simp [intOf]; omega
                 · obtain rfl : r = 4 := by omega
                   have HS := Lib.hid hS
                   have H12 := Lib.hid h12
                   have H13 := Lib.hid h13
                   have hm := HM.out
                   have l0 : ∀ i, m i < 256 := fun i => by rw [← hm]; exact mixF_lt _ HC.out i
                   have l1 : ∀ i, mixF m i < 256 := mixF_lt m l0
                   have l2 : ∀ i, mixF (mixF m) i < 256 := mixF_lt _ l1
                   have h1 := Lib.hid (fun w' => mix_any m l0 w')
                   have h2 := Lib.hid (fun w' => mix_any (mixF m) l1 w')
                   have h3 : ∀ w', Calls Tryd.prog 18 #[.agg (arr 4 (mixF (mixF m)))] w' fun e w'' => e = .returned (.agg (arr 4 (col l c))) ∧ Below w'.heap.size w' w'' := fun w' => by
                     have h := mix_any (mixF (mixF m)) l2 w'
                     rw [arr_congr (fun i hi => show mixF (mixF (mixF m)) i = col l c i by rw [← hm]; exact mixF_four _ HC.out i hi)] at h
                     exact h
                   have h3' := Lib.hid h3
                   have q1 := run_eq37 (col l c)
                   have q2 := plain37
                   clear hS h12 h13 hm l0 l1 l2 h3
                   go_wp2
                   refine wp_region_below (by kernel_rfl) (by kernel_rfl) ?_
                   repeat (first
                     | go_big_quiet_skip
                     | (go_big_quiet_want; first
                         | (refine quiet_load_row 37 _ rfl g12 (arr 4 m) 4 5 rfl (fun y => H12.out.inC y) Tryd.underlying37 (size37 _) ?_; simp only [Act.put, List.setIfInBounds_toArray, List.set_cons_succ, List.set_cons_zero]; go_big_quiet_on)
                         | (refine quiet_load_row 37 _ rfl g13 (arr 4 (col l c)) 4 5 rfl (fun y => H13.out.inC y) Tryd.underlying37 (size37 _) ?_; simp only [Act.put, List.setIfInBounds_toArray, List.set_cons_succ, List.set_cons_zero]; go_big_quiet_on)
                         | (go_big_quiet_op; first | go_big_quiet_on | (go_big_quiet_call (first
                             | (go_at_call_of 18 (arr 4 m); exact InC.call _ (h1.out _))
                             | (go_at_call_of 18 (arr 4 (mixF m)); exact InC.call _ (h2.out _))
                             | (go_at_call_of 18 (arr 4 (mixF (mixF m))); exact InC.call _ (h3'.out _)))))))
                   refine wpQuiet_nil ?_
                   rintro _ ⟨y, rfl⟩
                   go_wp2
                   go_roundw
                   case rel => exact ⟨c + 1, by omega, by go_num, HS.out.grown y.h⟩
                   case measure => simp [intOf]; omega)
          · have hT2 : TabAt wr := HT.out.below hS.below
            have HT2 := Lib.hid hT2
            have HB2 := Lib.hid hS.below
            clear hT2 hS HT
            obtain rfl : c = 4 := by omega
            go_wp2_with (go_at_call 11; refine (wakes_any _ HT2.out).mono ?_; rintro e w3 ⟨rfl, hb3⟩)
            go_ret
            exact ⟨rfl, HB2.out.trans (hb3.mono HB2.out.size)⟩

end Go.Proofs.YtbahdcebgcgeeaaDoor
