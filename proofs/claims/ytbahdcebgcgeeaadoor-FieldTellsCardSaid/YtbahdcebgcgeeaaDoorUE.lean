/- The contracts of the document's Mix and shifted. -/
import Derived.Test.YtbahdcebgcgeeaaDoorUD
import Derived.Test.YtbahdcebgcgeeaaDoorS
import Derived.Deep.RegionHeld3
namespace Go.Proofs.YtbahdcebgcgeeaaDoor
open Go.RowKit

theorem gmul_two : ∀ x, x < 256 → gmul 2 x = dbl x := by decide +kernel
theorem gmul_three : ∀ x, x < 256 → gmul 3 x = dbl x ^^^ x := by decide +kernel
theorem refTwo (x : Nat) (hx : x < 256) (w : World) : Calls Tryd.prog 17 #[.int .u8 2, .int .u8 (x : Int)] w fun e w' => e = .returned (.int .u8 (dbl x : Nat)) ∧ w = w' := by
  have h := refMul_any 2 x (by decide) hx w
  rw [gmul_two x hx] at h
  exact h
theorem refThree (x : Nat) (hx : x < 256) (w : World) : Calls Tryd.prog 17 #[.int .u8 3, .int .u8 (x : Int)] w fun e w' => e = .returned (.int .u8 (dbl x ^^^ x : Nat)) ∧ w = w' := by
  have h := refMul_any 3 x (by decide) hx w
  rw [gmul_three x hx] at h
  exact h
theorem refmix_eq (c : Nat → Nat) (hc : ∀ i, c i < 256) (k : Nat) (hk : k < 4) :
    dbl (c k) ^^^ (dbl (c ((k + 1) % 4)) ^^^ c ((k + 1) % 4)) ^^^ c ((k + 2) % 4) ^^^ c ((k + 3) % 4) = mixF c k := by
  unfold mixF
  rw [dbl_xor _ (hc k) _ (hc _)]
  rcases (by omega : k = 0 ∨ k = 1 ∨ k = 2 ∨ k = 3) with rfl | rfl | rfl | rfl <;> simp [Nat.xor_assoc, Nat.xor_comm, xor_lc, xor_cancel]

theorem mod_facts (k d : Nat) (hk : k < 4) (hd : d < 4) : ∃ j q : Nat, (k + d) % 4 = q ∧ (k : Int) + (d : Int) = (j : Int) ∧ IntKind.i64.wrap (j : Int) = (j : Int) ∧ (j : Int) % 4 = (q : Int) ∧ (j : Int).tmod 4 = (q : Int) ∧ IntKind.i64.wrap (q : Int) = (q : Int) ∧ (q : Int) < 4 ∧ q < 4 := by
  refine ⟨k + d, (k + d) % 4, rfl, by omega, Lib.wrap_i64_small _ (by omega), by omega, ?_, Lib.wrap_i64_small _ (by omega), by omega, by omega⟩
  rw [Int.tmod_eq_emod_of_nonneg (by omega)]; omega
/-- What a round of Mix looks at. -/
abbrev M4 (g : Nat) (c : Nat → Nat) (k q1 q2 q3 : Nat) (W : World) : Prop :=
  W.cell? ⟨g, k, none⟩ = some (.int .u8 (c k : Int)) ∧ W.cell? ⟨g, q1, none⟩ = some (.int .u8 (c q1 : Int)) ∧ W.cell? ⟨g, q2, none⟩ = some (.int .u8 (c q2 : Int)) ∧ W.cell? ⟨g, q3, none⟩ = some (.int .u8 (c q3 : Int))
theorem m4_of {g : Nat} {c : Nat → Nat} {k q1 q2 q3 : Nat} {W : World} (h : Blk W g 37 4 c) (hl : k < 4 ∧ q1 < 4 ∧ q2 < 4 ∧ q3 < 4) : M4 g c k q1 q2 q3 W :=
  ⟨h.cell _ hl.1, h.cell _ hl.2.1, h.cell _ hl.2.2.1, h.cell _ hl.2.2.2⟩

set_option maxRecDepth 100000 in
set_option maxHeartbeats 1000000 in
theorem refMix_any (c : Nat → Nat) (hc : ∀ i, c i < 256) (w : World) :
    Calls Tryd.prog 19 #[.agg (arr 4 c)] w fun e w' => e = .returned (.agg (arr 4 (mixF c))) ∧ Below w.heap.size w w' := by
  have hz := zero37
  have h1 : Blk (((w.alloc (.cells (arr 4 c) 37)).alloc (.cells (arr 4 fun _ => 0) 37)).alloc (.cells (arr 4 fun _ => 0) 37)) w.heap.size 37 4 c := ((Blk.new w 37 4 c).alloc _).alloc _
  have h2 : Blk (((w.alloc (.cells (arr 4 c) 37)).alloc (.cells (arr 4 fun _ => 0) 37)).alloc (.cells (arr 4 fun _ => 0) 37)) (w.heap.size + 1) 37 4 (fun _ => 0) := by
    have := (Blk.new (w.alloc (.cells (arr 4 c) 37)) 37 4 (fun _ => 0)).alloc (.cells (arr 4 fun _ => 0) 37)
    simpa using this
  have h3 : Blk (((w.alloc (.cells (arr 4 c) 37)).alloc (.cells (arr 4 fun _ => 0) 37)).alloc (.cells (arr 4 fun _ => 0) 37)) (w.heap.size + 1 + 1) 37 4 (fun _ => 0) := by
    have := Blk.new ((w.alloc (.cells (arr 4 c) 37)).alloc (.cells (arr 4 fun _ => 0) 37)) 37 4 (fun _ => 0)
    simpa using this
  have hB : Below w.heap.size w (((w.alloc (.cells (arr 4 c) 37)).alloc (.cells (arr 4 fun _ => 0) 37)).alloc (.cells (arr 4 fun _ => 0) 37)) := (((Below.refl _ w).alloc (Nat.le_refl _) _).alloc (by simp) _).alloc (by simp; omega) _
  go_enter Tryd.func19, Tryd.ntmps19
  go_wp2
  generalize ((w.alloc (.cells (arr 4 c) 37)).alloc (.cells (arr 4 fun _ => 0) 37)).alloc (.cells (arr 4 fun _ => 0) 37) = W0 at hB h1 h2 h3 ⊢
  obtain ⟨g1, hg1⟩ : ∃ g, w.heap.size = g := ⟨_, rfl⟩
  rw [hg1] at h1 h2 h3 ⊢
  obtain ⟨g2, hg2⟩ : ∃ g, g1 + 1 = g := ⟨_, rfl⟩
  rw [hg2] at h2 h3 ⊢
  obtain ⟨g3, hg3⟩ : ∃ g, g2 + 1 = g := ⟨_, rfl⟩
  rw [hg3] at h3 ⊢
  have H1 := Lib.hid h1
  have H2 := Lib.hid h2
  have H3 := Lib.hid h3
  have HB := Lib.hid hB
  have HC := Lib.hid hc
  clear h1 h2 h3 hB hc hz
  go_loopw [4] (fun i wr => ∃ k : Nat, k ≤ 4 ∧ i = .int .i64 (k : Int) ∧ Blk wr g1 37 4 c ∧ Blk wr g2 37 4 (fun _ => 0) ∧ Blk wr g3 37 4 (upF (mixF c) k) ∧ Below w.heap.size w wr) (fun i _ => 4 - (intOf i).toNat)
  case atStart => exact ⟨0, by omega, rfl, H1.out, H2.out, H3.out.congr (fun i _ => upF_zero _ i), HB.out⟩
  case round =>
    clear H1 H2 H3 HB
    obtain ⟨k, hk, rfl, h1, h2, h3, hB⟩ := hrel
    by_cases hlt : k < 4
    · obtain ⟨j1, q1, hq1, s1, wj1, e1, t1, wq1, b1, c1⟩ := mod_facts k 1 hlt (by decide)
      obtain ⟨j2, q2, hq2, s2, wj2, e2, t2, wq2, b2, c2⟩ := mod_facts k 2 hlt (by decide)
      obtain ⟨j3, q3, hq3, s3, wj3, e3, t3, wq3, b3, c3⟩ := mod_facts k 3 hlt (by decide)
      have s1 : (k : Int) + 1 = (j1 : Int) := s1
      have s2 : (k : Int) + 2 = (j2 : Int) := s2
      have s3 : (k : Int) + 3 = (j3 : Int) := s3
      have hl : k < 4 ∧ q1 < 4 ∧ q2 < 4 ∧ q3 < 4 := ⟨hlt, c1, c2, c3⟩
      have b0 : (k : Int) < 4 := Int.ofNat_lt.2 hlt
      have hm := refmix_eq c HC.out k hlt
      rw [hq1, hq2, hq3] at hm
      have l1 := xor_lt (dbl_lt (c q1)) (HC.out q1)
      have l2 := xor_lt (dbl_lt (c k)) l1
      have l3 := xor_lt l2 (HC.out q2)
      have x1 := u8_xor_nat (dbl (c k)) (dbl (c q1) ^^^ c q1) (dbl_lt _) l1
      have x2 := u8_xor_nat (dbl (c k) ^^^ (dbl (c q1) ^^^ c q1)) (c q2) l2 (HC.out q2)
      have x3 := u8_xor_nat (dbl (c k) ^^^ (dbl (c q1) ^^^ c q1) ^^^ c q2) (c q3) l3 (HC.out q3)
      rw [hm] at x3
      have hc3 := h3.cell k hlt
      have hf3 := h3.frozen k
      have H1 := Lib.hid h1
      have H2 := Lib.hid h2
      have H3 := Lib.hid h3
      have HB := Lib.hid hB
      have HL := Lib.hid hl
      clear h1 h2 h3 hB hl hm hq1 hq2 hq3 l1 l2 l3 c1 c2 c3
      go_wp2
      go_region_held3 (fun w' => M4 g1 c k q1 q2 q3 w')
        (first | exact m4_of (W := wr.drew) H1.out HL.out | exact m4_of (Blk.other (W := wr.drew) H1.out ⟨g3, k, none⟩ _ (by show g1 ≠ g3; omega)) HL.out | exact m4_of (Blk.other (W := wr) H1.out ⟨g3, k, none⟩ _ (by show g1 ≠ g3; omega)) HL.out | assumption)
        (first
          | (go_at_call_of 17 (Value.int IntKind.u8 2); refine (refTwo _ (HC.out _) _).mono ?_; rintro e w' ⟨rfl, rfl⟩)
          | (go_at_call_of 17 (Value.int IntKind.u8 3); refine (refThree _ (HC.out _) _).mono ?_; rintro e w' ⟨rfl, rfl⟩))
      go_wp2
      refine ⟨⟨k + 1, by omega, by rw [show j1 = k + 1 by omega], Blk.other H1.out ⟨g3, k, none⟩ _ (by show g1 ≠ g3; omega), Blk.other H2.out ⟨g3, k, none⟩ _ (by show g2 ≠ g3; omega), (H3.out.set k (mixF c k)).congr (fun i _ => upF_step (mixF c) k _ rfl i), (HB.out.setCell (p := ⟨g3, k, none⟩) (by show w.heap.size ≤ g3; omega) _).drew⟩, ?_⟩
      simp [intOf]; omega
    · have hk4 : k = 4 := by omega
      have H2 := Lib.hid h2
      have H3 := Lib.hid (h3.congr (f' := mixF c) (fun i hi => by rw [upF, if_pos (by omega)]))
      have HB := Lib.hid hB
      clear h1 h2 h3 hB hk4
      go_wp2_with (first
        | (refine wpList_load_row rfl 37 _ rfl g3 rfl 37 (arr 4 (mixF c)) (0, 0) _ H3.out Tryd.underlying37 rfl (size37 _) ?_)
        | (refine wpList_store_row rfl 37 _ _ rfl g2 (arr 4 (mixF c)) rfl rfl 37 (arr 4 fun _ => 0) H2.out (size37 _) (arr_sizes _ _ _) (arr_one _ _) ?_))
      exact bodyPost_ret (results_cell_row rfl _ _ g2 37 (arr 4 (mixF c)) (0, 0) _ rfl (blk_setRow H2.out) Tryd.underlying37 rfl (size37 _)) rfl ⟨rfl, below_setRow HB.out (by omega)⟩

set_option maxRecDepth 100000 in
set_option maxHeartbeats 1000000 in
theorem refshifted_any (f : Nat → Nat) (hf : ∀ i, f i < 256) (w : World) :
    Calls Tryd.prog 30 #[.agg (arr 16 f)] w fun e W' => e = .returned (.agg (arr 16 (shf f))) ∧ Below w.heap.size w W' := by
  have z := zero38
  obtain ⟨hB, h1, h2, h3⟩ := three w f (fun _ => 0) (fun _ => 0)
  go_enter Tryd.func30, Tryd.ntmps30
  go_wp2
  generalize ((w.alloc (.cells (arr 16 f) 38)).alloc (.cells (arr 16 fun _ => 0) 38)).alloc (.cells (arr 16 fun _ => 0) 38) = W0 at hB h1 h2 h3 ⊢
  obtain ⟨g1, hg1⟩ : ∃ g, w.heap.size = g := ⟨_, rfl⟩
  rw [hg1] at h1 h2 h3 ⊢
  obtain ⟨g2, hg2⟩ : ∃ g, g1 + 1 = g := ⟨_, rfl⟩
  rw [hg2] at h2 h3 ⊢
  obtain ⟨g3, hg3⟩ : ∃ g, g2 + 1 = g := ⟨_, rfl⟩
  rw [hg3] at h3 ⊢
  have H1 := Lib.hid h1
  have H2 := Lib.hid h2
  have H3 := Lib.hid h3
  have HB := Lib.hid hB
  have HF := Lib.hid hf
  clear h1 h2 h3 hB hf z
  go_loopw [4] (fun i wr => ∃ c : Nat, c ≤ 4 ∧ i = .int .i64 (c : Int) ∧ Blk wr g1 38 16 f ∧ Blk wr g2 38 16 (fun _ => 0) ∧ Blk wr g3 38 16 (upF (shf f) (4 * c)) ∧ Below w.heap.size w wr) (fun i _ => 4 - (intOf i).toNat)
  case atStart => exact ⟨0, by omega, rfl, H1.out, H2.out, H3.out.congr (fun i _ => upF_zero _ i), HB.out⟩
  case round =>
    clear H1 H2 H3 HB
    obtain ⟨c, hc, rfl, h1, h2, h3, hB⟩ := hrel
    by_cases hlt : c < 4
    · have H1 := Lib.hid h1
      have H2 := Lib.hid h2
      have H3 := Lib.hid h3
      have HB := Lib.hid hB
      have hc4 : (c : Int) < 4 := Int.ofNat_lt.2 hlt
      clear h1 h2 h3 hB
      go_wp2
      go_loopw [5] (fun i wr => ∃ r : Nat, r ≤ 4 ∧ i = .int .i64 (r : Int) ∧ Blk wr g1 38 16 f ∧ Blk wr g2 38 16 (fun _ => 0) ∧ Blk wr g3 38 16 (upF (shf f) (4 * c + r)) ∧ Below w.heap.size w wr) (fun i _ => 4 - (intOf i).toNat)
      case atStart => exact ⟨0, by omega, rfl, H1.out, H2.out, H3.out, HB.out⟩
      case round =>
        clear H1 H2 H3 HB
        obtain ⟨r, hr, rfl, h1, h2, h3, hB⟩ := hrel
        by_cases hrl : r < 4
        · obtain ⟨i, hi⟩ : ∃ i, 4 * c + r = i := ⟨_, rfl⟩
          obtain ⟨q, hq⟩ : ∃ q, (c + r) % 4 = q := ⟨_, rfl⟩
          obtain ⟨j, hj⟩ : ∃ j, 4 * q + r = j := ⟨_, rfl⟩
          have hj16 : j < 16 := by omega
          have hi16 : i < 16 := by omega
          have hs : bx (f j) = shf f i := by
            unfold shf
            rw [show (i + 4 * (i % 4)) % 16 = j by omega]
          have e1 : 4 * (c : Int) + (r : Int) = (i : Int) := by omega
          have e2 : ((c : Int) + (r : Int)) % 4 = (q : Int) := by omega
          have e3 : 4 * (q : Int) + (r : Int) = (j : Int) := by omega
          have c1 := h1.cell j hj16
          have c3 := h3.cell i hi16
          have f3 := h3.frozen i
          have HS := Lib.hid hs
          have HI := Lib.hid hi
          have H1 := Lib.hid h1
          have H2 := Lib.hid h2
          have H3 := Lib.hid h3
          have HB := Lib.hid hB
          clear h1 h2 h3 hB hs hi hq hj
          go_wp2_with (go_at_call 28; refine (refbox_any _ (HF.out _) _).mono ?_; rintro e w' ⟨rfl, rfl⟩)
          go_roundw
          case rel => exact ⟨r + 1, by omega, by go_num, Blk.other H1.out ⟨g3, i, none⟩ _ (by show g1 ≠ g3; omega), Blk.other H2.out ⟨g3, i, none⟩ _ (by show g2 ≠ g3; omega), (H3.out.set i (bx (f j))).congr (fun x _ => by rw [HI.out, show 4 * c + (r + 1) = i + 1 by have := HI.out; omega]; exact upF_step (shf f) i _ HS.out x), HB.out.setCell (p := ⟨g3, i, none⟩) (by show w.heap.size ≤ g3; omega) _⟩
          case measure => simp [intOf]; omega
        · have H1 := Lib.hid h1
          have H2 := Lib.hid h2
          rw [show 4 * c + r = 4 * (c + 1) by omega] at h3
          have H3 := Lib.hid h3
          have HB := Lib.hid hB
          clear h1 h2 h3 hB
          go_wp2
          go_roundw
          case rel => exact ⟨c + 1, by omega, by go_num, H1.out, H2.out, H3.out, HB.out⟩
          case measure => simp [intOf]; omega
    · have H2 := Lib.hid h2
      rw [show 4 * c = 16 by omega] at h3
      have H3 := Lib.hid (h3.congr (fun i hi => upF_all (shf f) 16 i hi))
      have HB := Lib.hid hB
      clear h1 h2 h3 hB
      go_wp2_with (first
        | (refine wpList_load_row rfl 38 _ rfl g3 rfl 38 (arr 16 (shf f)) (0, 0) _ H3.out Tryd.underlying38 rfl (size38 _) ?_)
        | (refine wpList_store_row rfl 38 _ _ rfl g2 (arr 16 (shf f)) rfl rfl 38 (arr 16 fun _ => 0) H2.out (size38 _) (arr_sizes _ _ _) (arr_one _ _) ?_))
      exact bodyPost_ret (results_cell_row rfl _ _ g2 38 (arr 16 (shf f)) (0, 0) _ rfl (blk_setRow H2.out) Tryd.underlying38 rfl (size38 _)) rfl ⟨rfl, below_setRow HB.out (by omega)⟩

end Go.Proofs.YtbahdcebgcgeeaaDoor
