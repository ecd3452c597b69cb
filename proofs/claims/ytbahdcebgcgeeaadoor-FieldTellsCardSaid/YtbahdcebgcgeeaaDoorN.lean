/- The contract of the closure that does a round: field.round's function value. -/
import Derived.Test.YtbahdcebgcgeeaaDoorJ
namespace Go.Proofs.YtbahdcebgcgeeaaDoor
open Go.RowKit Go.Shelf
attribute [local go_sem] Oper.semAt_some

/-- Column c of a block. -/
def col (g : Nat → Nat) (c : Nat) : Nat → Nat := fun r => g (4 * c + r)
/-- A round, by what is done with a column. -/
def rnd (mx : (Nat → Nat) → Nat → Nat) (f ky : Nat → Nat) (i : Nat) : Nat := mx (col (shf f) (i / 4)) (i % 4) ^^^ ky i
/-- What the rounds of the loop over the block have laid. -/
def laid (f : Nat → Nat) (pre : List (Fin 16)) : Nat → Nat := pre.foldl (fun g x => upd g x.val (shf f x.val)) (fun _ => 0)
theorem laid_snoc (f : Nat → Nat) (pre : List (Fin 16)) (x : Fin 16) : laid f (pre ++ [x]) = upd (laid f pre) x.val (shf f x.val) := by simp [laid]
theorem laid_upto (f : Nat → Nat) (k : Nat) (hk : k ≤ 16) (i : Nat) : laid f (upto k) i = if i < k then shf f i else 0 := by
  induction k with
  | zero => simp [laid, upto]
  | succ k ih =>
    rw [upto_succ k (by omega), laid_snoc, upd]
    have := ih (by omega)
    by_cases h : i = k
    · subst h; simp
    · have h2 : i < k + 1 ↔ i < k := by omega
      simp [h, h2, this]
theorem shf_lt (f : Nat → Nat) (hf : ∀ i, f i < 256) (i : Nat) : shf f i < 256 := bx_lt _ (hf _)

theorem Blk.kept {W W' : World} {row : Option Nat} {g t n : Nat} {f : Nat → Nat} (h : Blk W g t n f) (hg : W.grownBy W' row) (hrow : ∀ r, row = some r → ∃ o : Obj, W.heap[r]? = some o ∧ o.isCells = false) : Blk W' g t n f :=
  (grownBy_keeps_cells hg hrow h rfl).trans h

theorem KpBut.setCell (W : World) (a : Addr) (v : Value) : KpBut a.block W (W.setCell a v) := fun k o hne hk _ => by
  rw [heap_setCell_other _ _ _ _ hne]; exact hk
theorem cell_other {W : World} {p : Addr} {u : Value} (a : Addr) (v : Value) (h : W.cell? p = some u) (hne : p.block ≠ a.block) : (W.setCell a v).cell? p = some u :=
  (World.cell?_of_block (heap_setCell_other _ _ _ _ hne)).trans h
/-- The out block when i bytes are laid. -/
def outU (mx : (Nat → Nat) → Nat → Nat) (f ky : Nat → Nat) (j : Nat) : Nat → Nat := fun i => if i < j then rnd mx f ky i else 0

theorem outU_step (mx : (Nat → Nat) → Nat → Nat) (f ky : Nat → Nat) (c r i : Nat) (hr : r < 4) (hi : 4 * c + r = i) (j : Nat) (_ : j < 16) :
    upd (outU mx f ky (4 * c + r)) i (mx (col (shf f) c) r ^^^ ky i) j = outU mx f ky (4 * c + (r + 1)) j := by
  unfold upd outU rnd
  by_cases h : j = i
  · subst h
    have e1 : j / 4 = c := by omega
    have e2 : j % 4 = r := by omega
    have e3 : j < 4 * c + (r + 1) := by omega
    simp [e1, e2, e3]
  · have h2 : j < 4 * c + (r + 1) ↔ j < 4 * c + r := by omega
    simp [h, h2]
/-- A column out of a block of columns. -/
theorem run_index_col (g : Nat → Nat) (c : Nat) (hc : c < 4) (w : World) : (Instr.index 49 (.agg (arr 16 g)) (.int .i64 (c : Int))).run Tryd.prog w = .ok (.agg (arr 4 (col g c))) w := by
  have e : (arr 16 g).extract (c * 4) (c * 4 + 4) = arr 4 (col g c) := by
    apply Array.ext_getElem?
    intro i
    by_cases hi : i < 4
    · have h := arr_at 16 g (c * 4 + i) (by omega)
      rw [Array.getElem?_eq_getElem (by rw [arr_size]; omega)] at h
      rw [arr_at 4 _ i hi, Array.getElem?_extract_of_lt (by rw [arr_size]; omega), h, col, Nat.mul_comm c 4]
    · have h2 : (arr 4 (col g c))[i]? = none := by simp [arr_size]; omega
      rw [h2]; simp [arr_size]; omega
  simp [Instr.index, asIntOf, Tryd.runUnderlying49, Sem.run_bind, hc, part, Tryd.isAgg37, Tryd.sizeOf37, e]

theorem zero49 (w : World) : (zeroValue 49).run Tryd.prog w = .ok (.agg (arr 16 fun _ => 0)) w := by
  rw [← zeroA_arr]; exact Tryd.zeroValue49 w

/-- What a mixing function is. -/
structure Mixes (fm : FuncId) (mx : (Nat → Nat) → Nat → Nat) : Prop where
  call : ∀ c, (∀ i, c i < 256) → ∀ w, Calls Tryd.prog fm #[.agg (arr 4 c)] w fun e w' => e = .returned (.agg (arr 4 (mx c))) ∧ Below w.heap.size w w'
  lt : ∀ c, (∀ i, c i < 256) → ∀ i, mx c i < 256
  enters : ∀ args w, (callFunc fm args).run Tryd.prog w = .ok (.enter fm args) w

set_option maxRecDepth 100000 in
set_option maxHeartbeats 4000000 in
theorem round1_in (n : Nat) (hn : 3 ≤ n) (fm : FuncId) (mx : (Nat → Nat) → Nat → Nat) (hm : Mixes fm mx) (Bm : Nat) (f ky : Nat → Nat) (hf : ∀ i, f i < 256) (hky : ∀ i, ky i < 256) (w : World)
    (hBm : w.cell? ⟨Bm, 0, none⟩ = some (.func (.func fm) #[] #[])) :
    CallsIn Fence.wide n Tryd.prog 34 #[.agg (arr 16 f), .agg (arr 16 ky), .pointer (some ⟨Bm, 0, none⟩)] w fun e W' => e = .returned (.agg (arr 16 (rnd mx f ky))) ∧ Below w.heap.size w W' := by
  have h1 : 1 ≤ n := by omega
  have z1 := zero38
  have z2 := zero49
  have hA : Blk ((((w.alloc (.cells (arr 16 f) 38)).alloc (.cells (arr 16 ky) 38)).alloc (.cells (arr 16 fun _ => 0) 38)).alloc (.cells (arr 16 fun _ => 0) 49)) w.heap.size 38 16 f := (((Blk.new w 38 16 f).alloc _).alloc _).alloc _
  have HA := Lib.hid hA
  clear hA
  refine callsIn_of_wp_marks Tryd.func34 rfl trivial ?_ rfl
  simp only [Tryd.ntmps34, List.size_toArray, List.length_cons, List.length_nil, Nat.reduceAdd, Nat.reduceSub, Array.replicate_succ, Array.replicate_zero, List.push_toArray, List.append_toArray, List.nil_append, List.cons_append]
  gi_wp2_with (first
    | (refine wpListIn_load_row rfl 38 _ rfl w.heap.size rfl 38 (arr 16 f) (0, 0) _ HA.out Tryd.underlying38 rfl (size38 f) ?_)
    | (refine ⟨trivial, ?_⟩; gi_at_call 35; refine (shifted_in _ _ _).mono ?_; rintro e w1 ⟨rfl, rfl⟩))
  obtain ⟨ga, hga⟩ : ∃ g, w.heap.size = g := ⟨_, rfl⟩
  obtain ⟨W0, hW0⟩ : ∃ W0, (((((w.alloc (.cells (arr 16 f) 38)).alloc (.cells (arr 16 ky) 38)).alloc (.cells (arr 16 fun _ => 0) 38)).alloc (.cells (arr 16 fun _ => 0) 49)).alloc (.cells (arr 16 f) 38)) = W0 := ⟨_, rfl⟩
  have hlt0 : Bm < w.heap.size := block_lt_of_cell hBm
  have hsz : W0.heap.size = ga + 5 := by rw [← hW0]; simp; omega
  have hBel : Below w.heap.size w W0 := by
    rw [← hW0]
    exact (((((Below.refl _ w).alloc (Nat.le_refl _) _).alloc (by simp) _).alloc (by simp; omega) _).alloc (by simp; omega) _).alloc (by simp; omega) _
  have hcm : W0.cell? ⟨Bm, 0, none⟩ = some (.func (.func fm) #[] #[]) := (hBel.cell (p := ⟨Bm, 0, none⟩) hlt0).trans hBm
  have hBk : Blk W0 (ga + 1) 38 16 ky := by
    have := (((Blk.new (w.alloc (.cells (arr 16 f) 38)) 38 16 ky).alloc (.cells (arr 16 fun _ => 0) 38)).alloc (.cells (arr 16 fun _ => 0) 49)).alloc (.cells (arr 16 f) 38)
    rw [hW0] at this; simpa [hga] using this
  have hBo : Blk W0 (ga + 1 + 1) 38 16 (fun _ => 0) := by
    have := ((Blk.new ((w.alloc (.cells (arr 16 f) 38)).alloc (.cells (arr 16 ky) 38)) 38 16 (fun _ => 0)).alloc (.cells (arr 16 fun _ => 0) 49)).alloc (.cells (arr 16 f) 38)
    rw [hW0] at this; simpa [hga] using this
  have hBs : Blk W0 (ga + 1 + 1 + 1) 49 16 (fun _ => 0) := by
    have := (Blk.new (((w.alloc (.cells (arr 16 f) 38)).alloc (.cells (arr 16 ky) 38)).alloc (.cells (arr 16 fun _ => 0) 38)) 49 16 (fun _ => 0)).alloc (.cells (arr 16 f) 38)
    rw [hW0] at this; simpa [hga] using this
  have hBc : Blk W0 (ga + 1 + 1 + 1 + 1) 38 16 f := by
    have := Blk.new ((((w.alloc (.cells (arr 16 f) 38)).alloc (.cells (arr 16 ky) 38)).alloc (.cells (arr 16 fun _ => 0) 38)).alloc (.cells (arr 16 fun _ => 0) 49)) 38 16 f
    rw [hW0] at this; simpa [hga] using this
  rw [hW0, hga]
  clear hW0 HA z1 z2
  obtain ⟨gk, hgk⟩ : ∃ g, ga + 1 = g := ⟨_, rfl⟩
  rw [hgk] at hBk hBo hBs hBc ⊢
  obtain ⟨go, hgo⟩ : ∃ g, gk + 1 = g := ⟨_, rfl⟩
  rw [hgo] at hBo hBs hBc ⊢
  obtain ⟨gs, hgs⟩ : ∃ g, go + 1 = g := ⟨_, rfl⟩
  rw [hgs] at hBs hBc ⊢
  obtain ⟨gc, hgc⟩ : ∃ g, gs + 1 = g := ⟨_, rfl⟩
  rw [hgc] at hBc ⊢
  have o1 : gk < go := by omega
  have o2 : go < gs := by omega
  have o3 : gs < gc := by omega
  have o4 : w.heap.size < gk := by omega
  have o5 : gc < W0.heap.size := by omega
  have o6 : Bm < gk := by omega
  clear hga hgk hgo hgs hgc hsz
  refine wpIn_rangeFunc_ownF rfl h1 (gf := 36) (lb := #[.pointer (some ⟨gc, 0, none⟩)]) rfl trivial (enters_of Tryd.func36 (by kernel_rfl) rfl)
    (shifted_stops (n - 1) (by omega) gc gs f hf (by omega) W0 (by omega) hBc) (fun h k => h.trans k) (fun W l o o' _ h ho _ => KpBut.putObj W l o o' h ho) (Below.refl _ _) (fun _ => rfl)
    (fun pre W => (Blk W gs 49 16 (laid f pre) ∧ Blk W gk 38 16 ky ∧ Blk W go 38 16 (fun _ => 0) ∧ W.cell? ⟨Bm, 0, none⟩ = some (.func (.func fm) #[] #[])) ∧ Below w.heap.size w W)
    (fun _ _ _ => False)
    (OwnFrom.and (Own.from (fun s A B row hs hg hr => ⟨hs.1.kept hg hr, hs.2.1.kept hg hr, hs.2.2.1.kept hg hr, cell_kept hs.2.2.2 hg hr⟩) _) (ownFrom_below (Nat.le_refl _) (by omega)))
    (fun _ _ _ _ _ hs _ _ => hs)
    ⟨⟨hBs, hBk, hBo, hcm⟩, hBel⟩
    (fun x => { tmps := #[.agg (arr 16 f), .agg (arr 16 ky), .pointer (some ⟨Bm, 0, none⟩), .pointer (some ⟨ga, 0, none⟩), .pointer (some ⟨gk, 0, none⟩), .pointer (some ⟨go, 0, none⟩), .pointer (some ⟨gs, 0, none⟩), .int .i64 (x.val : Int), .int .u8 (shf f x.val : Nat), undef, undef, undef, undef, .agg (arr 16 f), .func (.func 36) #[] #[.pointer (some ⟨gc, 0, none⟩)], .int .i64 (x.val : Int), .int .u8 (shf f x.val : Nat), undef, undef, undef, undef, undef, undef, undef, undef, undef, undef, undef, undef, undef, undef, undef, undef, undef, undef, undef, undef, undef, undef, undef, undef, undef, undef, undef, undef, undef, undef, undef, undef, undef, undef, undef], defers := [] }) ?assign ?body ?done ?stop
  case assign =>
    intro l x W K hK
    gi_wp2
    exact hK
  case body =>
    rintro l pre x W ⟨⟨hs, hk, ho, hc⟩, hB⟩ _
    obtain ⟨i, hi⟩ := x
    dsimp only
    obtain ⟨q, hq, hq4⟩ : ∃ q, i / 4 = q ∧ q < 4 := ⟨_, rfl, by omega⟩
    obtain ⟨r, hr, hr4⟩ : ∃ r, i % 4 = r ∧ r < 4 := ⟨_, rfl, by omega⟩
    have i1 : (i : Int) / 4 = (q : Int) := by omega
    have i2 : (i : Int) % 4 = (r : Int) := by omega
    have he : q * 4 + r = i := by omega
    have hcell := hs.cell i hi
    have hfz := hs.frozen i
    gi_wp2
    exact ⟨KeepsOthers.setCell _ _ _, KpBut.setCell W ⟨gs, i, none⟩ _, ⟨by rw [laid_snoc]; exact hs.set i _, hk.other _ _ (by simp; omega), ho.other _ _ (by simp; omega), cell_other _ _ hc (by simp; omega)⟩, hB.setCell (by simp; omega) _⟩
  case done =>
    rintro D ys W hD rfl ⟨⟨hs, hk, ho, hc⟩, hB⟩ hK
    have hs1 : Blk W gs 49 16 (shf f) := hs.congr (fun i hi => by rw [laid_upto f 16 (by omega)]; simp [hi])
    have HS := Lib.hid hs1
    have HF := Lib.hid hf
    have HY := Lib.hid hky
    have o7 : gc < D := by omega
    have ho1 : Blk W go 38 16 (outU mx f ky 0) := ho
    clear hs hs1 hf hky ho hD o5
    have hent := hm.enters
    gi_wp2_with (refine wpListIn_load_row rfl 49 _ rfl gs rfl 49 (arr 16 (shf f)) (0, 0) _ HS.out Tryd.underlying49 rfl (size49 _) ?_)
    gi_loopw [25] (fun i wr => ∃ c : Nat, c ≤ 4 ∧ i = .int .i64 (c : Int) ∧ Blk wr go 38 16 (outU mx f ky (4 * c)) ∧ Blk wr gk 38 16 ky ∧ wr.cell? ⟨Bm, 0, none⟩ = some (.func (.func fm) #[] #[]) ∧ wr.heap[D]? = some (.deferred (some [])) ∧ Below w.heap.size w wr) (fun i _ => 4 - (intOf i).toNat)
    case atStart => exact ⟨0, by omega, rfl, ho1, hk, hc, hK, hB⟩
    case round =>
      clear ho1 hk hc hK hB
      obtain ⟨c, hc4, rfl, ho, hk, hc, hK, hB⟩ := hrel
      by_cases hlt : c < 4
      · have hix := run_index_col (shf f) c hlt
        have hcol : ∀ i, col (shf f) c i < 256 := fun i => shf_lt f HF.out _
        have hW1 : Blk (wr.alloc (.cells (arr 4 (col (shf f) c)) 37)) wr.heap.size 37 4 (col (shf f) c) := Blk.new wr 37 4 _
        have hc1 : (wr.alloc (.cells (arr 4 (col (shf f) c)) 37)).cell? ⟨Bm, 0, none⟩ = some (.func (.func fm) #[] #[]) := (((Below.refl _ wr).alloc (Nat.le_refl _) _).cell (p := ⟨Bm, 0, none⟩) (block_lt_of_cell hc)).trans hc
        have hD1 : (wr.alloc (.cells (arr 4 (col (shf f) c)) 37)).heap[D]? = some (.deferred (some [])) := (Below.heap_alloc _ _ _ (Array.getElem?_eq_some_iff.1 hK).1).trans hK
        have hB1 : Below w.heap.size w (wr.alloc (.cells (arr 4 (col (shf f) c)) 37)) := hB.alloc hB.size _
        have ho1 : Blk (wr.alloc (.cells (arr 4 (col (shf f) c)) 37)) go 38 16 (outU mx f ky (4 * c)) := ho.alloc _
        have hk1 : Blk (wr.alloc (.cells (arr 4 (col (shf f) c)) 37)) gk 38 16 ky := hk.alloc _
        have HW := Lib.hid hW1
        have HC := Lib.hid hcol
        have HD := Lib.hid hD1
        have HB := Lib.hid hB1
        have HO := Lib.hid ho1
        have HK := Lib.hid hk1
        have z37 := zero37
        clear hW1 hcol hD1 hB1 ho1 hk1 hc hK hB ho hk
        gi_wp2_with (first
          | (refine wpListIn_store_new rfl 37 _ _ rfl (arr 4 fun _ => 0) (arr 4 (col (shf f) c)) rfl rfl (size37 _) (arr_sizes 4 _ _) (arr_one _ _) ?_)
          | (refine wpListIn_load_row rfl 37 _ rfl wr.heap.size rfl 37 (arr 4 (col (shf f) c)) (0, 0) _ HW.out Tryd.underlying37 rfl (size37 _) ?_)
          | (refine ⟨trivial, ?_⟩; refine (callsIn_wide.2 (hm.call _ HC.out _)).mono ?_; rintro e w2 ⟨rfl, hb2⟩))
        have ho2 : Blk w2 go 38 16 (outU mx f ky (4 * c + 0)) := HO.out.grown hb2
        have hk2 : Blk w2 gk 38 16 ky := HK.out.grown hb2
        have hc2 : w2.cell? ⟨Bm, 0, none⟩ = some (.func (.func fm) #[] #[]) := (hb2.cell (p := ⟨Bm, 0, none⟩) (block_lt_of_cell hc1)).trans hc1
        have hD2 : w2.heap[D]? = some (.deferred (some [])) := (hb2.block D (Array.getElem?_eq_some_iff.1 HD.out).1).trans HD.out
        have hB2 : Below w.heap.size w w2 := HB.out.trans (hb2.mono HB.out.size)
        have hml := hm.lt _ HC.out
        have HML := Lib.hid hml
        clear hc1 HW HC HD HB HO HK hb2 hix z37 hml
        gi_loopw [32] (fun i wr2 => ∃ r : Nat, r ≤ 4 ∧ i = .int .i64 (r : Int) ∧ Blk wr2 go 38 16 (outU mx f ky (4 * c + r)) ∧ Blk wr2 gk 38 16 ky ∧ wr2.cell? ⟨Bm, 0, none⟩ = some (.func (.func fm) #[] #[]) ∧ wr2.heap[D]? = some (.deferred (some [])) ∧ Below w.heap.size w wr2) (fun i _ => 4 - (intOf i).toNat)
        case atStart => exact ⟨0, by omega, rfl, ho2, hk2, hc2, hD2, hB2⟩
        case round =>
          clear ho2 hk2 hc2 hD2 hB2
          obtain ⟨r, hr4, rfl, ho, hk, hc, hK, hB⟩ := hrel
          by_cases hltr : r < 4
          · have hix := run_index_bytes 37 4 Tryd.underlying37 (arr 4 (mx (col (shf f) c))) r _ hltr (arr_at 4 _ r hltr) .i64
            obtain ⟨i, hi⟩ : ∃ i, 4 * c + r = i := ⟨_, rfl⟩
            have hi16 : i < 16 := by omega
            have e1 : (4 : Int) * (c : Int) + (r : Int) = (i : Int) := by omega
            have ck := hk.cell i hi16
            have co := ho.cell i hi16
            have fo := ho.frozen i
            have x1 := u8_xor_nat (mx (col (shf f) c) r) (ky i) (HML.out r) (HY.out i)
            have HI := Lib.hid hi
            have HO := Lib.hid ho
            have HK := Lib.hid hk
            have HC := Lib.hid hc
            have HD := Lib.hid hK
            have HB := Lib.hid hB
            clear hi ho hk hc hK hB
            gi_wp2
            go_roundw
            case rel => exact ⟨r + 1, by omega, by go_num, (HO.out.set i _).congr (outU_step mx f ky c r i hltr HI.out), HK.out.other _ _ (by simp; omega), cell_other _ _ HC.out (by simp; omega), (heap_setCell_other _ _ _ _ (by simp; omega)).trans HD.out, HB.out.setCell (by simp; omega) _⟩
            case measure => simp [intOf]; omega
          · obtain rfl : r = 4 := by omega
            have HO := Lib.hid ho
            have HK := Lib.hid hk
            have HC := Lib.hid hc
            have HD := Lib.hid hK
            have HB := Lib.hid hB
            clear ho hk hc hK hB
            gi_wp2
            go_roundw
            case rel => exact ⟨c + 1, by omega, by go_num, HO.out, HK.out, HC.out, HD.out, HB.out⟩
            case measure => simp [intOf]; omega
      · obtain rfl : c = 4 := by omega
        have HO := Lib.hid ho
        have HK := Lib.hid hK
        have HB := Lib.hid hB
        clear ho hk hc hK hB
        gi_wp2_with (first | (refine wpListIn_load_row rfl 38 _ rfl go rfl 38 (arr 16 (outU mx f ky (4 * 4))) (0, 0) _ HO.out Tryd.underlying38 rfl (size38 _) ?_) | (refine wpListIn_store_row rfl 38 _ _ rfl go (arr 16 (outU mx f ky (4 * 4))) rfl rfl 38 (arr 16 (outU mx f ky (4 * 4))) HO.out (size38 _) rfl (arr_one _ _) ?_; rw [setRow_self _ _ _ _ _ HO.out]))
        refine ⟨by simp, .inl ⟨_, _, rfl, run_takeDeferred HK.out, ?_⟩⟩
        have HO2 : Blk (wr.putObj D (.deferred none)) go 38 16 (outU mx f ky (4 * 4)) := HO.out.kept (grownBy_putObj' _ D (.deferred none)) (fun r e => by cases e; exact ⟨_, HK.out, rfl⟩)
        refine ⟨_, results_cell_row rfl _ _ go 38 (arr 16 (outU mx f ky (4 * 4))) (0, 0) _ rfl HO2 Tryd.underlying38 rfl (size38 _), ?_, HB.out.trans (belowK_b (w := w) (Nat.le_refl _) wr D _ _ (by omega) HK.out rfl rfl)⟩
        rw [arr_congr (fun i hi => show outU mx f ky (4 * 4) i = rnd mx f ky i by simp [outU, hi])]
  case stop =>
    rintro D c pre W _ _ h _
    exact h.elim

end Go.Proofs.YtbahdcebgcgeeaaDoor
