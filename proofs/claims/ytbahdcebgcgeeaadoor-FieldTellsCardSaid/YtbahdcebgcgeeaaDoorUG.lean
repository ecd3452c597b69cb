/- The contract of the document's Round. -/
import Derived.Test.YtbahdcebgcgeeaaDoorUF
namespace Go.Proofs.YtbahdcebgcgeeaaDoor
open Go.RowKit

/-- The block of a round, when n of its bytes are mixed. -/
def rU (l : Nat → Nat) (n : Nat) : Nat → Nat := fun i => if i < n then mixF (col l (i / 4)) (i % 4) else l i
theorem rU_step (l m : Nat → Nat) (c r i : Nat) (hm : mixF (col l c) = m) (hr : r < 4) (hi : 4 * c + r = i) (j : Nat) : upd (rU l (4 * c + r)) i (m r) j = rU l (4 * c + (r + 1)) j := by
  unfold upd rU
  by_cases h : j = i
  · subst h
    rw [if_pos rfl, if_pos (by omega), show j / 4 = c by omega, show j % 4 = r by omega, hm]
  · have h2 : j < 4 * c + (r + 1) ↔ j < 4 * c + r := by omega
    simp [h, h2]
theorem rU_rnd (f ky : Nat → Nat) (i : Nat) (hi : i < 16) : rU (shf f) 16 i ^^^ ky i = rnd mixF f ky i := by
  unfold rU rnd; rw [if_pos hi]

/-- What stands at the loops: the key's block, the result's, the block that is worked on. -/
structure Sr (w : World) (g3 g4 g5 : Nat) (ky C : Nat → Nat) (W : World) : Prop where
  b3 : Blk W g3 38 16 ky
  b4 : Blk W g4 38 16 (fun _ => 0)
  b5 : Blk W g5 38 16 C
  below : Below w.heap.size w W
  ne : w.heap.size ≤ g4 ∧ w.heap.size ≤ g5 ∧ g3 ≠ g5 ∧ g4 ≠ g5
section
variable {w : World} {g3 g4 g5 : Nat} {ky C C' : Nat → Nat} {W W' : World}
theorem Sr.drew (h : Sr w g3 g4 g5 ky C W) : Sr w g3 g4 g5 ky C W.drew := ⟨h.b3, h.b4, h.b5, h.below.drew, h.ne⟩
theorem Sr.alloc (h : Sr w g3 g4 g5 ky C W) (o : Obj) : Sr w g3 g4 g5 ky C (W.alloc o) := ⟨h.b3.alloc o, h.b4.alloc o, h.b5.alloc o, h.below.alloc h.below.size o, h.ne⟩
theorem Sr.grown (h : Sr w g3 g4 g5 ky C W) (hb : Below W.heap.size W W') : Sr w g3 g4 g5 ky C W' := ⟨h.b3.grown hb, h.b4.grown hb, h.b5.grown hb, h.below.trans (hb.mono h.below.size), h.ne⟩
theorem Sr.set (h : Sr w g3 g4 g5 ky C W) (i v : Nat) (hC : ∀ j, j < 16 → upd C i v j = C' j) : Sr w g3 g4 g5 ky C' (W.setCell ⟨g5, i, none⟩ (.int .u8 (v : Int))) :=
  ⟨h.b3.other _ _ h.ne.2.2.1, h.b4.other _ _ h.ne.2.2.2, (h.b5.set i v).congr hC, h.below.setCell h.ne.2.1 _, h.ne⟩
theorem Sr.over (h : Sr w g3 g4 g5 ky C W) (a : Addr) (v : Value) (hg : g3 ≠ a.block ∧ g4 ≠ a.block ∧ g5 ≠ a.block ∧ w.heap.size ≤ a.block) : Sr w g3 g4 g5 ky C (W.setCell a v) :=
  ⟨h.b3.other _ _ hg.1, h.b4.other _ _ hg.2.1, h.b5.other _ _ hg.2.2.1, h.below.setCell hg.2.2.2 _, h.ne⟩
theorem Sr.congr (h : Sr w g3 g4 g5 ky C W) (hC : ∀ j, j < 16 → C j = C' j) : Sr w g3 g4 g5 ky C' W := ⟨h.b3, h.b4, h.b5.congr hC, h.below, h.ne⟩
/-- What a column's reads look at. -/
abbrev R5 (w : World) (g3 g4 g5 : Nat) (ky C l : Nat → Nat) (i0 i1 i2 i3 : Nat) (W : World) : Prop :=
  Sr w g3 g4 g5 ky C W ∧ W.cell? ⟨g5, i0, none⟩ = some (.int .u8 (l i0 : Int)) ∧ W.cell? ⟨g5, i1, none⟩ = some (.int .u8 (l i1 : Int)) ∧ W.cell? ⟨g5, i2, none⟩ = some (.int .u8 (l i2 : Int)) ∧ W.cell? ⟨g5, i3, none⟩ = some (.int .u8 (l i3 : Int))
/-- The four bytes of a column as they were. -/
structure Four (C l : Nat → Nat) (i0 i1 i2 i3 : Nat) : Prop where
  lt : i0 < 16 ∧ i1 < 16 ∧ i2 < 16 ∧ i3 < 16
  at_ : C i0 = l i0 ∧ C i1 = l i1 ∧ C i2 = l i2 ∧ C i3 = l i3
variable {l : Nat → Nat} {i0 i1 i2 i3 : Nat}
theorem r5 (hl : Four C l i0 i1 i2 i3) (h : Sr w g3 g4 g5 ky C W) : R5 w g3 g4 g5 ky C l i0 i1 i2 i3 W := by
  refine ⟨h, ?_, ?_, ?_, ?_⟩
  · rw [← hl.at_.1]; exact h.b5.cell _ hl.lt.1
  · rw [← hl.at_.2.1]; exact h.b5.cell _ hl.lt.2.1
  · rw [← hl.at_.2.2.1]; exact h.b5.cell _ hl.lt.2.2.1
  · rw [← hl.at_.2.2.2]; exact h.b5.cell _ hl.lt.2.2.2
theorem r5_call (hl : Four C l i0 i1 i2 i3) (hb : Below W.heap.size W W') (h : R5 w g3 g4 g5 ky C l i0 i1 i2 i3 W) : R5 w g3 g4 g5 ky C l i0 i1 i2 i3 W' := r5 hl (h.1.grown hb)
theorem r5_alloc (hl : Four C l i0 i1 i2 i3) (o : Obj) (h : R5 w g3 g4 g5 ky C l i0 i1 i2 i3 W) : R5 w g3 g4 g5 ky C l i0 i1 i2 i3 (W.alloc o) := r5 hl (h.1.alloc o)
theorem r5_store4 {o : Obj} (p q r s : Value) (hl : Four C l i0 i1 i2 i3) (h : Sr w g3 g4 g5 ky C W) (hb : Below (W.alloc o).drew.heap.size (W.alloc o).drew W') :
    R5 w g3 g4 g5 ky C l i0 i1 i2 i3 ((((W'.setCell ⟨W.heap.size, 0, none⟩ p).setCell ⟨W.heap.size, 1, none⟩ q).setCell ⟨W.heap.size, 2, none⟩ r).setCell ⟨W.heap.size, 3, none⟩ s) := by
  have h2 : Sr w g3 g4 g5 ky C W' := ((h.alloc o).drew).grown hb
  have l3 := h.b3.lt
  have l4 := h.b4.lt
  have l5 := h.b5.lt
  have ls := h.below.size
  have hg : g3 ≠ W.heap.size ∧ g4 ≠ W.heap.size ∧ g5 ≠ W.heap.size ∧ w.heap.size ≤ W.heap.size := by omega
  exact r5 hl ((((h2.over _ _ hg).over _ _ hg).over _ _ hg).over _ _ hg)
end
theorem lit4 (f : Nat → Nat) : arr 4 f = #[.int .u8 (f 0 : Int), .int .u8 (f 1 : Int), .int .u8 (f 2 : Int), .int .u8 (f 3 : Int)] := by
  simp [arr, List.range_succ]
theorem new4 {W w2 : World} {a b c d : Value} (hb : Below (W.alloc (.cells #[a, b, c, d] 37)).drew.heap.size (W.alloc (.cells #[a, b, c, d] 37)).drew w2) :
    (w2.cell? ⟨W.heap.size, 0, none⟩ = some a ∧ w2.cell? ⟨W.heap.size, 1, none⟩ = some b ∧ w2.cell? ⟨W.heap.size, 2, none⟩ = some c ∧ w2.cell? ⟨W.heap.size, 3, none⟩ = some d) ∧
    w2.frozen? ⟨W.heap.size, 0, none⟩ = false ∧ w2.frozen? ⟨W.heap.size, 1, none⟩ = false ∧ w2.frozen? ⟨W.heap.size, 2, none⟩ = false ∧ w2.frozen? ⟨W.heap.size, 3, none⟩ = false := by
  have h : w2.heap[W.heap.size]? = some (.cells #[a, b, c, d] 37 (0, 0)) := (hb.block W.heap.size (by simp [World.drew])).trans (heap_alloc_new W _)
  refine ⟨⟨?_, ?_, ?_, ?_⟩, frozen_of_row _ _ 0 _ _ h, frozen_of_row _ _ 1 _ _ h, frozen_of_row _ _ 2 _ _ h, frozen_of_row _ _ 3 _ _ h⟩ <;> rw [cell_of_row _ _ _ _ _ _ h] <;> rfl
theorem set4_blk {W w2 : World} (m : Nat → Nat) (hb : Below (W.alloc (.cells #[.int .u8 0, .int .u8 0, .int .u8 0, .int .u8 0] 37)).drew.heap.size (W.alloc (.cells #[.int .u8 0, .int .u8 0, .int .u8 0, .int .u8 0] 37)).drew w2) :
    Blk ((((w2.setCell ⟨W.heap.size, 0, none⟩ (.int .u8 (m 0 : Int))).setCell ⟨W.heap.size, 1, none⟩ (.int .u8 (m 1 : Int))).setCell ⟨W.heap.size, 2, none⟩ (.int .u8 (m 2 : Int))).setCell ⟨W.heap.size, 3, none⟩ (.int .u8 (m 3 : Int))) W.heap.size 37 4 m := by
  have h : Blk w2 W.heap.size 37 4 (fun _ => 0) := by
    unfold Blk
    rw [lit4]
    exact (hb.block W.heap.size (by simp [World.drew])).trans (heap_alloc_new W _)
  refine ((((h.set 0 (m 0)).set 1 (m 1)).set 2 (m 2)).set 3 (m 3)).congr fun i hi => ?_
  rcases (by omega : i = 0 ∨ i = 1 ∨ i = 2 ∨ i = 3) with rfl | rfl | rfl | rfl <;> simp [upd]
theorem laid4_blk (W : World) (m : Nat → Nat) : Blk (W.alloc (.cells #[.int .u8 (m 0 : Int), .int .u8 (m 1 : Int), .int .u8 (m 2 : Int), .int .u8 (m 3 : Int)] 37)) W.heap.size 37 4 m := by
  rw [← lit4]; exact Blk.new W 37 4 m

set_option maxRecDepth 100000 in
set_option maxHeartbeats 4000000 in
theorem refRound_any (f ky : Nat → Nat) (hf : ∀ i, f i < 256) (hky : ∀ i, ky i < 256) (w : World) :
    Calls Tryd.prog 23 #[.agg (arr 16 f), .agg (arr 16 ky)] w fun e W' => e = .returned (.agg (arr 16 (rnd mixF f ky))) ∧ Below w.heap.size w W' := by
  have z := zero38
  obtain ⟨hB, h2, h3, h4⟩ := three w f ky (fun _ => 0)
  have H2 := Lib.hid h2
  go_enter Tryd.func23, Tryd.ntmps23
  go_wp2_with (first
    | (refine wpList_load_row rfl 38 _ rfl w.heap.size rfl 38 (arr 16 f) (0, 0) _ H2.out Tryd.underlying38 rfl (size38 _) ?_)
    | (refine wpList_store_new rfl 38 _ _ rfl (arr 16 fun _ => 0) (arr 16 (shf f)) rfl rfl (size38 _) (arr_sizes _ _ _) (arr_one _ _) ?_)
    | (go_at_call 30; refine (refshifted_any f hf _).mono ?_; rintro e w1 ⟨rfl, hb1⟩))
  have hS : Sr w (w.heap.size + 1) (w.heap.size + 1 + 1) w1.heap.size ky (shf f) (w1.alloc (.cells (arr 16 (shf f)) 38)) := by
    have k3 := h3.grown hb1
    have k4 := h4.grown hb1
    have l3 := k3.lt
    have l4 := k4.lt
    have hB1 := hB.trans (hb1.mono hB.size)
    exact ⟨k3.alloc _, k4.alloc _, Blk.new w1 38 16 (shf f), hB1.alloc hB1.size _, by omega, hB1.size, by omega, by omega⟩
  generalize w1.alloc (.cells (arr 16 (shf f)) 38) = W1 at hS ⊢
  generalize w1.heap.size = g5 at hS ⊢
  obtain ⟨g2, hg2⟩ : ∃ g, w.heap.size = g := ⟨_, rfl⟩
  rw [hg2] at hS ⊢
  generalize g2 + 1 = g3 at hS ⊢
  generalize g3 + 1 = g4 at hS ⊢
  obtain ⟨l, hl⟩ : ∃ l, shf f = l := ⟨_, rfl⟩
  have hll : ∀ i, l i < 256 := fun i => by rw [← hl]; exact shf_lt f hf i
  have hend : ∀ i, i < 16 → rU l 16 i ^^^ ky i = rnd mixF f ky i := fun i hi => by rw [← hl]; exact rU_rnd f ky i hi
  rw [hl] at hS ⊢
  have HS := Lib.hid hS
  have HG := Lib.hid (⟨hll, hky, hend⟩ : (∀ i, l i < 256) ∧ (∀ i, ky i < 256) ∧ ∀ i, i < 16 → rU l 16 i ^^^ ky i = rnd mixF f ky i)
  clear H2 h2 h3 h4 hB hb1 hS hl hll hend z hf hky hg2
  go_loopw [6] (fun i wr => ∃ c : Nat, c ≤ 4 ∧ i = .int .i64 (c : Int) ∧ Sr w g3 g4 g5 ky (rU l (4 * c)) wr) (fun i _ => 4 - (intOf i).toNat)
  case atStart => exact ⟨0, by omega, rfl, HS.out.congr (fun i _ => by simp [rU])⟩
  case round =>
    clear HS
    obtain ⟨c, hc, rfl, hS⟩ := hrel
    by_cases hlt : c < 4
    · have HS := Lib.hid hS
      clear hS
      obtain ⟨C, hC⟩ : ∃ C, rU l (4 * c) = C := ⟨_, rfl⟩
      rw [hC] at HS
      obtain ⟨i0, hi0⟩ : ∃ i, 4 * c = i := ⟨_, rfl⟩
      obtain ⟨i1, hi1⟩ : ∃ i, i0 + 1 = i := ⟨_, rfl⟩
      obtain ⟨i2, hi2⟩ : ∃ i, i0 + 2 = i := ⟨_, rfl⟩
      obtain ⟨i3, hi3⟩ : ∃ i, i0 + 3 = i := ⟨_, rfl⟩
      have e0 : (4 : Int) * (c : Int) = (i0 : Int) := by omega
      have e1 : (i0 : Int) + 1 = (i1 : Int) := by omega
      have e2 : (i0 : Int) + 2 = (i2 : Int) := by omega
      have e3 : (i0 : Int) + 3 = (i3 : Int) := by omega
      have h4 : Four C l i0 i1 i2 i3 := ⟨by omega, by rw [← hC]; unfold rU; rw [if_neg (by omega), if_neg (by omega), if_neg (by omega), if_neg (by omega)]; exact ⟨rfl, rfl, rfl, rfl⟩⟩
      have HL := Lib.hid h4
      have lt0 : (i0 : Int) < 16 := by omega
      have lt1 : (i1 : Int) < 16 := by omega
      have lt2 : (i2 : Int) < 16 := by omega
      have lt3 : (i3 : Int) < 16 := by omega
      have wr0 : IntKind.i64.wrap (i0 : Int) = (i0 : Int) := Lib.wrap_i64_small i0 (by omega)
      have wr1 : IntKind.i64.wrap (i1 : Int) = (i1 : Int) := Lib.wrap_i64_small i1 (by omega)
      have wr2 : IntKind.i64.wrap (i2 : Int) = (i2 : Int) := Lib.wrap_i64_small i2 (by omega)
      have wr3 : IntKind.i64.wrap (i3 : Int) = (i3 : Int) := Lib.wrap_i64_small i3 (by omega)
      have hc4 : (c : Int) < 4 := Int.ofNat_lt.2 hlt
      obtain ⟨m, hm⟩ : ∃ m, mixF (col l c) = m := ⟨_, rfl⟩
      have hcol : ∀ i, col l c i < 256 := fun i => HG.out.1 _
      have ecol : arr 4 (col l c) = #[.int .u8 (l i0 : Int), .int .u8 (l i1 : Int), .int .u8 (l i2 : Int), .int .u8 (l i3 : Int)] := by
        rw [lit4, ← hi1, ← hi2, ← hi3, ← hi0]; rfl
      have hmix : ∀ w', Calls Tryd.prog 19 #[.agg #[.int .u8 (l i0 : Int), .int .u8 (l i1 : Int), .int .u8 (l i2 : Int), .int .u8 (l i3 : Int)]] w' fun e w'' => e = .returned (.agg #[.int .u8 (m 0 : Int), .int .u8 (m 1 : Int), .int .u8 (m 2 : Int), .int .u8 (m 3 : Int)]) ∧ Below w'.heap.size w' w'' := fun w' => by
        have h := refMix_any (col l c) hcol w'
        rw [ecol, hm, lit4 m] at h
        exact h
      have HM := Lib.hid hm
      have HC := Lib.hid hC
      have HI := Lib.hid hi0
      have z := zero37
      simp only [lit4] at z
      clear hm hcol ecol hi0 hi1 hi2 hi3 h4 hC
      go_wp2
      go_region_held3 (fun w' => R5 w g3 g4 g5 ky C l i0 i1 i2 i3 w')
        (first | exact r5 HL.out HS.out.drew | exact r5 HL.out (HS.out.alloc _).drew | (apply r5_call HL.out; assumption; assumption) | (apply r5_alloc HL.out; assumption) | (apply r5_store4 _ _ _ _ HL.out HS.out; assumption) | (apply r5_alloc HL.out; apply r5_call HL.out; assumption; exact r5 HL.out HS.out.drew))
        (first | (go_at_call 19; refine (hmix _).mono ?_; rintro e w2 ⟨rfl, hb⟩; first | (have fz := new4 hb) | skip))
      all_goals first
        | (have hB7 := set4_blk m hb
           have hS2 := (r5_store4 (.int .u8 (m 0 : Int)) (.int .u8 (m 1 : Int)) (.int .u8 (m 2 : Int)) (.int .u8 (m 3 : Int)) HL.out HS.out hb).1
           have hlt7 : g5 ≠ wr.heap.size := by have := HS.out.b5.lt; omega
           have hle7 : w.heap.size ≤ wr.heap.size := HS.out.below.size
           obtain ⟨g7, hg7⟩ : ∃ g, wr.heap.size = g := ⟨_, rfl⟩
           rw [hg7] at hB7 hS2 hlt7 hle7 ⊢
           generalize ((((w2.setCell ⟨g7, 0, none⟩ (.int .u8 (m 0 : Int))).setCell ⟨g7, 1, none⟩ (.int .u8 (m 1 : Int))).setCell ⟨g7, 2, none⟩ (.int .u8 (m 2 : Int))).setCell ⟨g7, 3, none⟩ (.int .u8 (m 3 : Int))) = W2 at hB7 hS2 ⊢)
        | (have hB7 := laid4_blk w2 m
           have hS1 := (r5_call HL.out hb (r5 HL.out HS.out.drew)).1
           have hS2 := hS1.alloc (.cells #[.int .u8 (m 0 : Int), .int .u8 (m 1 : Int), .int .u8 (m 2 : Int), .int .u8 (m 3 : Int)] 37)
           have hlt7 : g5 ≠ w2.heap.size := by have := hS1.b5.lt; omega
           have hle7 : w.heap.size ≤ w2.heap.size := hS1.below.size
           generalize (w2.alloc (.cells #[.int .u8 (m 0 : Int), .int .u8 (m 1 : Int), .int .u8 (m 2 : Int), .int .u8 (m 3 : Int)] 37)) = W2 at hB7 hS2 ⊢
           generalize w2.heap.size = g7 at hB7 hlt7 hle7 ⊢)
      all_goals
        (have HS2 := Lib.hid hS2
         have HB7 := Lib.hid hB7
         clear hS2 hB7 hmix HS z e1 e2 e3 wr1 wr2 wr3 lt1 lt2 lt3
         go_wp2
         go_loopw [8] (fun i wr => ∃ r : Nat, r ≤ 4 ∧ i = .int .i64 (r : Int) ∧ Sr w g3 g4 g5 ky (rU l (4 * c + r)) wr ∧ Blk wr g7 37 4 m) (fun i _ => 4 - (intOf i).toNat)
         case atStart => exact ⟨0, by omega, rfl, HS2.out.congr (fun i _ => by rw [← HC.out]; rfl), HB7.out⟩
         case round =>
           clear HS2 HB7
           obtain ⟨r, hr, rfl, hS, h7⟩ := hrel
           by_cases hrl : r < 4
           · obtain ⟨j, hj⟩ : ∃ j, 4 * c + r = j := ⟨_, rfl⟩
             have hi0 := HI.out
             have ej : (i0 : Int) + (r : Int) = (j : Int) := by omega
             have ltj : (j : Int) < 16 := by omega
             have wrj : IntKind.i64.wrap (j : Int) = (j : Int) := Lib.wrap_i64_small j (by omega)
             have c5 := hS.b5.cell j (by omega)
             have f5 := hS.b5.frozen j
             have cm := h7.cell r hrl
             have HS := Lib.hid hS
             have H7 := Lib.hid h7
             have HJ := Lib.hid hj
             clear hS h7 hi0 hj
             go_wp2
             go_roundw
             case rel => exact ⟨r + 1, by omega, by go_num, HS.out.set j (m r) (fun x _ => rU_step l m c r j HM.out hrl HJ.out x), Blk.other H7.out ⟨g5, j, none⟩ _ (by show g7 ≠ g5; omega)⟩
             case measure => simp [intOf]; omega
           · rw [show 4 * c + r = 4 * (c + 1) by omega] at hS
             have HS := Lib.hid hS
             clear hS h7
             go_wp2
             go_roundw
             case rel => exact ⟨c + 1, by omega, by go_num, HS.out⟩
             case measure => simp [intOf]; omega)
    · rw [show 4 * c = 16 by omega] at hS
      have HS := Lib.hid hS
      have l16 : ∀ i, rU l 16 i < 256 := fun i => by
        unfold rU
        split
        · exact mixF_lt _ (fun _ => HG.out.1 _) _
        · exact HG.out.1 _
      have HK := Lib.hid (fun w' => keyed_any (rU l 16) ky l16 HG.out.2.1 w')
      clear hS l16
      go_wp2_with (first
        | (refine wpList_load_row rfl 38 _ rfl g5 rfl 38 (arr 16 (rU l 16)) (0, 0) _ HS.out.b5 Tryd.underlying38 rfl (size38 _) ?_)
        | (refine wpList_load_row rfl 38 _ rfl g3 rfl 38 (arr 16 ky) (0, 0) _ HS.out.b3 Tryd.underlying38 rfl (size38 _) ?_)
        | (go_at_call 31; refine (HK.out _).mono ?_; rintro e w2 ⟨rfl, hb⟩; have H4 := Lib.hid (HS.out.b4.grown hb))
        | (refine wpList_store_row rfl 38 _ _ rfl g4 (arr 16 fun i => rU l 16 i ^^^ ky i) rfl rfl 38 (arr 16 fun _ => 0) H4.out (size38 _) (arr_sizes _ _ _) (arr_one _ _) ?_))
      refine bodyPost_ret (results_cell_row rfl _ _ g4 38 (arr 16 fun i => rU l 16 i ^^^ ky i) (0, 0) _ rfl (blk_setRow H4.out) Tryd.underlying38 rfl (size38 _)) rfl ⟨?_, below_setRow (HS.out.below.trans (hb.mono HS.out.below.size)) HS.out.ne.1⟩
      rw [arr_congr HG.out.2.2]

end Go.Proofs.YtbahdcebgcgeeaaDoor
