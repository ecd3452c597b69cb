/- The iterator over a block's bytes, boxed, their rows turned: field.shifted and its closure. -/
import Derived.RangeFuncNested
import Derived.RangeFuncBound
import Derived.RangeFuncCalls
import Derived.RangeFuncLeaves
import Derived.RangeFuncBox
import Derived.Shelf.Abstract
import Derived.Shelf.RegionOpen
import Derived.OwnWalkIn
import Derived.TacticsInMore
import Derived.LoopNIn
import Derived.LoopIn
import Derived.Test.YtbahdcebgcgeeaaDoorI
namespace Go.Proofs.YtbahdcebgcgeeaaDoor
open Go.RowKit Go.Shelf
attribute [local go_sem] Oper.semAt_some

/-- The byte that comes i-th. -/
def shf (f : Nat → Nat) (i : Nat) : Nat := bx (f ((i + 4 * (i % 4)) % 16))
/-- What has come when k rounds are over. -/
def upto (k : Nat) : List (Fin 16) := (List.finRange 16).take k
theorem upto_succ (k : Nat) (h : k < 16) : upto (k + 1) = upto k ++ [⟨k, h⟩] := by
  unfold upto
  rw [List.take_add_one, List.getElem?_eq_getElem (by simpa using h)]
  simp
theorem upto_length (k : Nat) (h : k ≤ 16) : (upto k).length = k := by
  simp [upto]; omega

/-- All blocks of cells but one lie as they lay. -/
def KpBut (gs : Nat) (W W' : World) : Prop := ∀ (k : Nat) (o : Obj), k ≠ gs → W.heap[k]? = some o → o.isCells = true → W'.heap[k]? = some o
theorem KpBut.trans {gs : Nat} {A B C : World} (h : KpBut gs A B) (k : KpBut gs B C) : KpBut gs A C := fun i o hne hi ho => k i o hne (h i o hne hi ho) ho
theorem KpBut.putObj {gs : Nat} (W : World) (l : Nat) (o o' : Obj) (h : W.heap[l]? = some o) (ho : o.isCells = false) : KpBut gs W (W.putObj l o') := fun i q _ hi hq => by
  rw [World.putObj_heap_other (fun e => by subst e; rw [h] at hi; cases hi; rw [ho] at hq; cases hq)]
  exact hi
theorem KpBut.blk {gs : Nat} {W W' : World} (h : KpBut gs W W') {g t n : Nat} {f : Nat → Nat} (hb : Blk W g t n f) (hne : g ≠ gs) : Blk W' g t n f := h g _ hne hb rfl
theorem grown_below {w w' : World} (h : Below w.heap.size w w') : w.grownBy w' none := ⟨h.os, h.tape, h.output, h.size, fun k hk _ => h.block k hk⟩

section
variable {F : Fence} {n : Nat} {P : Program} {ops : Array Oper} {rest : List Oper} {o : Oper} {a : Act} {w : World} {Q : Exit → Act → World → Prop}
/-- A whole array read, within a fence. -/
theorem wpListIn_load_row (hgd : o.guard = none) (ty : TypeId) (x : Operand) (ho : o.op = .load ty x)
    (g : Nat) (hx : a.eval x = .pointer (some ⟨g, 0, none⟩)) (t : TypeId) (cs : Array Value) (fr : Nat × Nat) (d : TypeDesc) (hg : w.heap[g]? = some (.cells cs t fr))
    (hu : P.underlying ty = some d) (hd : (match d with | .struct _ | .array _ _ => true | _ => false) = true) (hi : (P.info? ty).map (·.size) = some cs.size)
    (h : wpListIn F n P ops Q rest (a.put o.dst (.agg cs)) w) : wpListIn F n P ops Q (o :: rest) a w := by
  refine wpListIn_plain hgd fun K hK => ?_
  unfold Oper.wpIn
  refine ⟨?_, ?_⟩
  · simp [Oper.about, ho]
  · rw [Oper.semAt_plain F _ _ (by rw [ho]; intro c hc; cases hc)]
    unfold execOp
    simp only [ho, hx, Instr.loadAt, Instr.sureAddr, Sem.run_bind, Sem.run_pure, Result.andThen_ok, run_loadVar_row w g t ty cs fr d hg hu hd hi]
    exact hK _ _ h
/-- A whole array stored, within a fence. -/
theorem wpListIn_store_row (hgd : o.guard = none) (ty : TypeId) (x y : Operand) (ho : o.op = .store ty x y)
    (g : Nat) (cells : Array Value) (hx : a.eval x = .pointer (some ⟨g, 0, none⟩)) (hy : a.eval y = .agg cells)
    (t : TypeId) (old : Array Value) (hg : w.heap[g]? = some (.cells old t (0, 0))) (hi : (P.info? ty).map (·.size) = some cells.size)
    (hold : old.size = cells.size) (h1 : cells.all (·.oneCell') = true)
    (h : wpListIn F n P ops Q rest (a.put o.dst undef) (w.setRow g cells)) : wpListIn F n P ops Q (o :: rest) a w := by
  refine wpListIn_plain hgd fun K hK => ?_
  unfold Oper.wpIn
  refine ⟨?_, ?_⟩
  · simp [Oper.about, ho]
  · rw [Oper.semAt_plain F _ _ (by rw [ho]; intro c hc; cases hc)]
    unfold execOp
    simp only [ho, hx, hy, Instr.storeAt, Instr.sureAddr, Sem.run_bind, Sem.run_pure, Result.andThen_ok, run_storeVar_row w g t ty old cells hg hi hold h1]
    exact hK _ _ h
theorem wpListIn_store_new (hgd : o.guard = none) (ty : TypeId) (x y : Operand) (ho : o.op = .store ty x y)
    (old cells : Array Value) (hx : a.eval x = .pointer (some ⟨w.heap.size, 0, none⟩)) (hy : a.eval y = .agg cells)
    (hi : (P.info? ty).map (·.size) = some cells.size) (hold : old.size = cells.size) (h1 : cells.all (·.oneCell') = true)
    (h : wpListIn F n P ops Q rest (a.put o.dst undef) (w.alloc (.cells cells ty))) : wpListIn F n P ops Q (o :: rest) a (w.alloc (.cells old ty)) := by
  refine wpListIn_store_row hgd ty x y ho w.heap.size cells hx hy ty old (heap_alloc_last w _) hi hold h1 ?_
  rw [World.setRow_alloc_new]; exact h
end

set_option maxHeartbeats 1000000 in
theorem shifted_in (n : Nat) (f : Nat → Nat) (w : World) :
    CallsIn Fence.wide n Tryd.prog 35 #[.agg (arr 16 f)] w fun e w' => e = .returned (.func (.func 36) #[] #[.pointer (some ⟨w.heap.size, 0, none⟩)]) ∧ w.alloc (.cells (arr 16 f) 38) = w' := by
  refine callsIn_of_wp Tryd.func35 rfl trivial ?_ rfl
  simp only [Tryd.ntmps35, List.size_toArray, List.length_cons, List.length_nil, Nat.reduceAdd, Nat.reduceSub, Array.replicate_succ, Array.replicate_zero, List.push_toArray, List.append_toArray, List.nil_append, List.cons_append]
  gi_wp2
  go_ret
  exact ⟨rfl, rfl⟩

set_option maxRecDepth 100000 in
set_option maxHeartbeats 2000000 in
theorem shifted1_in (n : Nat) (hn : 1 ≤ n) (l Bs gs : Nat) (f : Nat → Nat) (hf : ∀ i, f i < 256) (hne : Bs ≠ gs) (J Jx : List (Fin 16) → World → Prop)
    (W : World) (hgs : gs < W.heap.size) (hBs : Blk W Bs 38 16 f) (hJ : AbidesFrom W.heap.size J)
    (hY : ∀ pre x W1, J pre W1 → pre.length < 16 → YieldAt Fence.wide (n - 1) Tryd.prog l #[.int .i64 ((x : Fin 16).val : Int), .int .u8 (shf f x.val : Nat)] W1 fun e W' =>
      (e = .returned (.bool true) ∧ J (pre ++ [x]) W' ∧ KpBut gs W1 W') ∨ (e = .returned (.bool false) ∧ Jx (pre ++ [x]) W'))
    (h0 : J [] W) :
    CallsIn Fence.wide n Tryd.prog 36 #[.func (.yield l) #[] #[], .pointer (some ⟨Bs, 0, none⟩)] W fun e W' => (∃ v, e = .returned v) ∧
      ((∃ ys, ys = upto 16 ∧ J ys W') ∨ (∃ pre, True ∧ Jx pre W')) := by
  have hz := zero28
  refine callsIn_of_wp Tryd.func36 rfl trivial ?_ rfl
  simp only [Tryd.ntmps36, List.size_toArray, List.length_cons, List.length_nil, Nat.reduceAdd, Nat.reduceSub, Array.replicate_succ, Array.replicate_zero, List.push_toArray, List.append_toArray, List.nil_append, List.cons_append]
  gi_wp2_with (first
    | (refine ⟨trivial, ?_⟩; gi_at_call 12; refine (callsIn_wide.2 (box_any _)).mono ?_; rintro e w1 ⟨rfl, hb1⟩)
    | (refine wpListIn_store_new rfl 28 _ _ rfl (zeroA 256) boxA rfl rfl size28b zeroA_boxA boxA_one ?_))
  have hJ1 : J [] (w1.alloc (.cells boxA 28)) := hJ _ _ _ none (hJ _ _ _ none h0 (grown_below hb1) (fun r e => by cases e)) (World.grownBy_alloc w1 _ none) (fun r e => by cases e)
  have hBs1 : Blk (w1.alloc (.cells boxA 28)) Bs 38 16 f := (hBs.grown hb1).alloc _
  have hX1 : Blk (w1.alloc (.cells boxA 28)) w1.heap.size 28 256 bx := by rw [boxA_arr]; exact Blk.new w1 28 256 bx
  have hne2 : w1.heap.size ≠ gs := by have := hb1.size; omega
  obtain ⟨Dx, hDx⟩ : ∃ Dx, w1.heap.size = Dx := ⟨_, rfl⟩
  rw [hDx] at hX1 hne2 ⊢
  have HF := Lib.hid hf
  have HY := Lib.hid hY
  clear hf hY h0 hBs hJ hb1 hz hgs hDx
  gi_loopw [6] (fun i wr => ∃ k : Nat, k ≤ 16 ∧ i = .int .i64 (k : Int) ∧ J (upto k) wr ∧ Blk wr Bs 38 16 f ∧ Blk wr Dx 28 256 bx) (fun i _ => 16 - (intOf i).toNat)
  case atStart => exact ⟨0, by omega, rfl, hJ1, hBs1, hX1⟩
  case round =>
    obtain ⟨k, hk, rfl, hJs, hB, hX⟩ := hrel
    by_cases hlt : k < 16
    · obtain ⟨fn, tmps, assign, body, hy, hR⟩ := HY.out (upto k) ⟨k, hlt⟩ wr hJs (by rw [upto_length k hk]; exact hlt)
      dsimp only at hy
      obtain ⟨r, hr⟩ : ∃ r, k % 4 = r := ⟨_, rfl⟩
      obtain ⟨q, hq, hq4⟩ : ∃ q, (k + 4 * r) % 16 = q ∧ q < 16 := ⟨_, rfl, Nat.mod_lt _ (by decide)⟩
      have i1 : (k : Int) % 4 = (r : Int) := by omega
      have i2 : ((k : Int) + 4 * (r : Int)) % 16 = (q : Int) := by omega
      have hr4 : r < 4 := by omega
      have e : bx (f q) = shf f k := by rw [shf, hr, hq]
      have c1 := hB.cell q hq4
      have c2 := hX.cell (f q) (HF.out q)
      rw [e] at c2
      have hfq := HF.out q
      have HB := Lib.hid hB
      have HX := Lib.hid hX
      clear hB hX hr hq e
      gi_wp2
      refine hR.mono ?_
      rintro e W3 (⟨rfl, hJ3, hk3⟩ | ⟨rfl, hJx3⟩)
      · gi_wp2
        go_roundw
        case rel => exact ⟨k + 1, by omega, by go_num, by rw [upto_succ k hlt]; exact hJ3, hk3.blk HB.out hne, hk3.blk HX.out hne2⟩
        case measure => simp [intOf]; omega
      · gi_wp2
        refine bodyPost_ret (results_none rfl _ _ _) rfl ?_
        exact ⟨⟨_, rfl⟩, .inr ⟨_, trivial, hJx3⟩⟩
    · obtain rfl : k = 16 := by omega
      gi_wp2
      go_end0
      exact ⟨⟨_, rfl⟩, .inl ⟨_, rfl, hJs⟩⟩

/-- The value that field.shifted hands back goes over the sixteen bytes. -/
theorem shifted_stops (n : Nat) (hn : 1 ≤ n) (Bs gs : Nat) (f : Nat → Nat) (hf : ∀ i, f i < 256) (hne : Bs ≠ gs) (w : World) (hgs : gs < w.heap.size) (hB : Blk w Bs 38 16 f) :
    SeqStopsK Fence.wide n Tryd.prog 36 #[.pointer (some ⟨Bs, 0, none⟩)] (fun x : Fin 16 => #[Value.int .i64 (x.val : Int), Value.int .u8 (shf f x.val : Nat)]) (KpBut gs) (fun ys => ys = upto 16) (fun _ => True) 16 w :=
  fun l J Jx W hW hJ _ hY h0 => shifted1_in n hn l Bs gs f hf hne J Jx W (Nat.lt_of_lt_of_le hgs hW.size) (hB.grown hW) hJ hY h0

end Go.Proofs.YtbahdcebgcgeeaaDoor
