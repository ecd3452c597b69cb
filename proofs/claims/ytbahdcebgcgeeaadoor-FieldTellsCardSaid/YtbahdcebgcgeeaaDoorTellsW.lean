/- The walk of FieldTells: at each function the program and the document answer alike. -/
import Derived.Test.YtbahdcebgcgeeaaDoorUG
import Derived.Test.YtbahdcebgcgeeaaDoorUB
import Derived.Test.YtbahdcebgcgeeaaDoorV
namespace Go.Proofs.YtbahdcebgcgeeaaDoor
open Go.RowKit

/-- Both inverses, of one byte. -/
theorem inv_both (a : Nat) (ha : a < 256) : ∃ (v : Nat) (e : Int), (∀ w, Calls Tryd.prog 10 #[.int .u8 (a : Int)] w fun x w' => x = .returned (.tuple #[.int .u8 (v : Int), .int .i64 e]) ∧ w = w') ∧
    ∀ w, Calls Tryd.prog 15 #[.int .u8 (a : Int)] w fun x w' => x = .returned (.tuple #[.int .u8 (v : Int), .int .i64 e]) ∧ w = w' := by
  by_cases h0 : a = 0
  · subst h0; exact ⟨0, 20, fun w => inv_zero w, fun w => refInv_zero w⟩
  · exact ⟨ginv a, 0, fun w => inv_any a ha (by omega) w, fun w => refInv_any a ha (by omega) w⟩

set_option maxRecDepth 100000 in
set_option maxHeartbeats 4000000 in
theorem tells_any (a b : Nat) (c f ky : Nat → Nat) (x y : Nat) (ha : a < 256) (hb : b < 256) (hc : ∀ i, c i < 256) (hf : ∀ i, f i < 256) (hky : ∀ i, ky i < 256) (hx : x < 18446744073709551616) (hy : y < 18446744073709551616) (w : World) (hT : TabAt w) :
    Calls Tryd.prog 7 #[.int .u8 (a : Int), .int .u8 (b : Int), .agg (arr 4 c), .agg (arr 16 f), .agg (arr 16 ky), .int .u64 (x : Int), .int .u64 (y : Int)] w fun e W' => e = .returned (.bool true) ∧ Below w.heap.size w W' := by
  obtain ⟨v, er, hi1, hi2⟩ := inv_both a ha
  have hl1 := fun w hT => clmul_any x y hx hy w hT
  have hl2 := fun w => refClmul_any x y hx hy w
  generalize lo (clm x y) = L at hl1 hl2
  generalize hi (clm x y) = H at hl1 hl2
  have hm1 := fun w => mul_any a b ha hb w
  have hm2 := fun w => refMul_any a b ha hb w
  generalize gmul a b = p at hm1 hm2
  have hx1 := fun w => mix_any c hc w
  have hx2 := fun w => refMix_any c hc w
  generalize mixF c = mc at hx1 hx2
  have hr1 := fun w => Round_any f ky hf hky w
  have hr2 := fun w => refRound_any f ky hf hky w
  generalize rnd mixF f ky = A at hr1 hr2
  have hs1 := fun w => Last_any f ky hf hky w
  have hs2 := fun w => refLast_any f ky hf hky w
  generalize rnd sameF f ky = B at hs1 hs2
  have hb1 : ∀ w, Calls Tryd.prog 12 #[] w fun e w' => e = .returned (.agg (arr 256 bx)) ∧ Below w.heap.size w w' := fun w => by
    rw [← boxA_arr]; exact box_any w
  have hk1 : ∀ w, Calls Tryd.prog 13 #[] w fun e w' => e = .returned (.agg (arr 256 bk)) ∧ Below w.heap.size w w' := fun w => by
    rw [← backC_arr]; exact back_any w
  have HI1 := Lib.hid hi1
  have HI2 := Lib.hid hi2
  have HL1 := Lib.hid hl1
  have HL2 := Lib.hid hl2
  have HM1 := Lib.hid hm1
  have HM2 := Lib.hid hm2
  have HX1 := Lib.hid hx1
  have HX2 := Lib.hid hx2
  have HR1 := Lib.hid hr1
  have HR2 := Lib.hid hr2
  have HS1 := Lib.hid hs1
  have HS2 := Lib.hid hs2
  have HB1 := Lib.hid hb1
  have HK1 := Lib.hid hk1
  have hB : Below w.heap.size w (((w.alloc (.cells (arr 4 c) 37)).alloc (.cells (arr 16 f) 38)).alloc (.cells (arr 16 ky) 38)) := (((Below.refl _ w).alloc (Nat.le_refl _) _).alloc (by simp) _).alloc (by simp; omega) _
  have h1 : Blk (((w.alloc (.cells (arr 4 c) 37)).alloc (.cells (arr 16 f) 38)).alloc (.cells (arr 16 ky) 38)) w.heap.size 37 4 c := ((Blk.new w 37 4 c).alloc _).alloc _
  have h2 : Blk (((w.alloc (.cells (arr 4 c) 37)).alloc (.cells (arr 16 f) 38)).alloc (.cells (arr 16 ky) 38)) (w.heap.size + 1) 38 16 f := by
    have := (Blk.new (w.alloc (.cells (arr 4 c) 37)) 38 16 f).alloc (.cells (arr 16 ky) 38)
    simpa using this
  have h3 : Blk (((w.alloc (.cells (arr 4 c) 37)).alloc (.cells (arr 16 f) 38)).alloc (.cells (arr 16 ky) 38)) (w.heap.size + 1 + 1) 38 16 ky := by
    have := Blk.new ((w.alloc (.cells (arr 4 c) 37)).alloc (.cells (arr 16 f) 38)) 38 16 ky
    simpa using this
  have hT0 : TabAt (((w.alloc (.cells (arr 4 c) 37)).alloc (.cells (arr 16 f) 38)).alloc (.cells (arr 16 ky) 38)) := hT.below hB
  have HH := Lib.hid (⟨hB, h1, h2, h3⟩ : _ ∧ _ ∧ _ ∧ _)
  have HT := Lib.hid hT0
  clear hi1 hi2 hl1 hl2 hm1 hm2 hx1 hx2 hr1 hr2 hs1 hs2 hb1 hk1 hB h1 h2 h3 hT hT0 ha hb hc hf hky hx hy
  go_enter Tryd.func7, Tryd.ntmps7
  go_wp2_with (first
    | (go_at_call 10; refine (HI1.out _).mono ?_; rintro e w' ⟨rfl, rfl⟩)
    | (go_at_call 15; refine (HI2.out _).mono ?_; rintro e w' ⟨rfl, rfl⟩)
    | (go_at_call 14; refine (HL1.out _ HT.out).mono ?_; rintro e w' ⟨rfl, rfl⟩)
    | (go_at_call 16; refine (HL2.out _).mono ?_; rintro e w' ⟨rfl, rfl⟩))
  obtain ⟨hB, h1, h2, h3⟩ := HH.out
  have hT := HT.out
  clear HH HT
  generalize ((w.alloc (.cells (arr 4 c) 37)).alloc (.cells (arr 16 f) 38)).alloc (.cells (arr 16 ky) 38) = W0 at hB h1 h2 h3 hT ⊢
  obtain ⟨g9, hg9⟩ : ∃ g, w.heap.size = g := ⟨_, rfl⟩
  rw [hg9] at h1 h2 h3 ⊢
  generalize g9 + 1 = g10 at h2 h3 ⊢
  generalize g10 + 1 = g11 at h3 ⊢
  have HT := Lib.hid hT
  have HB := Lib.hid hB
  have H1 := Lib.hid h1
  have H2 := Lib.hid h2
  have H3 := Lib.hid h3
  have q1 := run_eq37 mc
  have q2 := plain37
  clear h1 h2 h3 hT hB hg9
  refine wp_region_below (by kernel_rfl) (by kernel_rfl) ?_
  repeat (first
    | go_big_quiet_skip
    | (go_big_quiet_want; first
        | (refine quiet_load_row 37 _ rfl g9 (arr 4 c) 4 5 rfl (fun y => H1.out.inC y) Tryd.underlying37 (size37 _) ?_; simp only [Act.put, List.setIfInBounds_toArray, List.set_cons_succ, List.set_cons_zero]; go_big_quiet_on)
        | (go_big_quiet_op; first | go_big_quiet_on | (go_big_quiet_call (first
            | (go_at_call 9; exact InC.call_same _ (HM1.out _))
            | (go_at_call 17; exact InC.call_same _ (HM2.out _))
            | (go_at_call 18; exact InC.call _ (HX1.out _))
            | (go_at_call 19; exact InC.call _ (HX2.out _)))))))
  refine wpQuiet_nil ?_
  rintro _ ⟨y1, rfl⟩
  have HT2 := Lib.hid (HT.out.below y1.h)
  have HB2 := Lib.hid (HB.out.trans (y1.h.mono HB.out.size))
  have H2' := Lib.hid (H2.out.inC y1)
  have H3' := Lib.hid (H3.out.inC y1)
  clear HT HB H1 H2 H3 q1 q2
  obtain ⟨W1, hW1⟩ : ∃ W, y1.w = W := ⟨_, rfl⟩
  rw [hW1] at HT2 HB2 H2' H3' ⊢
  clear hW1 y1
  have q1 := run_eq28 bx
  have q2 := run_eq28 bk
  have q3 := run_eq38 A
  have q4 := run_eq38 B
  have q5 := plain28
  have q6 := plain38
  go_wp2
  refine wp_region_below (by kernel_rfl) (by kernel_rfl) ?_
  repeat (first
    | go_big_quiet_skip
    | (go_big_quiet_want; first
        | (refine quiet_load_row 38 _ rfl g10 (arr 16 f) 16 5 rfl (fun y => H2'.out.inC y) Tryd.underlying38 (size38 _) ?_; simp only [Act.put, List.setIfInBounds_toArray, List.set_cons_succ, List.set_cons_zero]; go_big_quiet_on)
        | (refine quiet_load_row 38 _ rfl g11 (arr 16 ky) 16 5 rfl (fun y => H3'.out.inC y) Tryd.underlying38 (size38 _) ?_; simp only [Act.put, List.setIfInBounds_toArray, List.set_cons_succ, List.set_cons_zero]; go_big_quiet_on)
        | (go_big_quiet_op; first | go_big_quiet_on | (go_big_quiet_call (first
            | (go_at_call 12; exact InC.call _ (HB1.out _))
            | (go_at_call 20; exact InC.call _ (refBox_any _))
            | (go_at_call 13; exact InC.call _ (HK1.out _))
            | (go_at_call 21; exact InC.call _ (refBack_any _))
            | (go_at_call 22; exact InC.call _ (HR1.out _))
            | (go_at_call 23; exact InC.call _ (HR2.out _))
            | (go_at_call 24; exact InC.call _ (HS1.out _))
            | (go_at_call 25; exact InC.call _ (HS2.out _))
            | (go_at_call 11; exact InC.call _ (wakes_any _ (HT2.out.below (InC.h _)))))))))
  refine wpQuiet_nil ?_
  rintro _ ⟨y2, rfl⟩
  go_wp2
  go_ret
  exact ⟨rfl, HB2.out.trans (y2.h.mono HB2.out.size)⟩

end Go.Proofs.YtbahdcebgcgeeaaDoor
