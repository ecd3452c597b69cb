/- The walk of FieldInverses: it returns true for every two bytes, in every world that holds the library's table. -/
import Derived.Test.YtbahdcebgcgeeaaDoorF
import Derived.Test.YtbahdcebgcgeeaaDoorG
namespace Go.Proofs.YtbahdcebgcgeeaaDoor
open Go.RowKit

theorem inv_inv (a : Nat) (ha : a < 256) (h0 : a ≠ 0) (w : World) :
    Calls Tryd.prog 10 #[.int .u8 (ginv a : Nat)] w fun e w' => e = .returned (.tuple #[.int .u8 (a : Nat), .int .i64 0]) ∧ w = w' := by
  have hf := ginv_facts a ha
  have h := inv_any (ginv a) hf.1 (Nat.pos_of_ne_zero (hf.2 h0).1) w
  rw [(hf.2 h0).2] at h
  exact h
theorem inv_mul (a b : Nat) (ha : a < 256) (hb : b < 256) (h0 : a ≠ 0) (h1 : b ≠ 0) (w : World) :
    Calls Tryd.prog 10 #[.int .u8 (gmul a b : Nat)] w fun e w' => e = .returned (.tuple #[.int .u8 (gmul (ginv a) (ginv b) : Nat), .int .i64 0]) ∧ w = w' := by
  have h := inv_any (gmul a b) (gmul_lt a b ha) (Nat.pos_of_ne_zero (gmul_ne_zero a b ha hb h0 h1)) w
  rw [ginv_mul a b ha hb h0 h1] at h
  exact h

set_option maxRecDepth 100000 in
theorem inverses_zero (a b : Nat) (h0 : a = 0 ∨ b = 0) (w : World) (hT : TabAt w) :
    Calls Tryd.prog 6 #[.int .u8 (a : Int), .int .u8 (b : Int)] w fun e w' => e = .returned (.bool true) ∧ Below w.heap.size w w' := by
  have HT := Lib.hid hT
  clear hT
  by_cases ha : a = 0
  · have hz : ((a : Int) == 0) = true := by simp [ha]
    clear ha h0
    go_enter Tryd.func6, Tryd.ntmps6
    go_wp2_with (go_at_call 11; refine (wakes_any _ HT.out).mono ?_; rintro e w2 ⟨rfl, hb2⟩)
    go_ret
    exact ⟨rfl, hb2⟩
  · have hz : ((a : Int) == 0) = false := by simp [ha]
    have hy : ((b : Int) == 0) = true := by rcases h0 with h | h <;> simp_all
    clear ha h0
    go_enter Tryd.func6, Tryd.ntmps6
    go_wp2_with (go_at_call 11; refine (wakes_any _ HT.out).mono ?_; rintro e w2 ⟨rfl, hb2⟩)
    go_ret
    exact ⟨rfl, hb2⟩

set_option maxRecDepth 100000 in
theorem inverses_core (a b : Nat) (q : Bool) (ha : a < 256) (hb : b < 256) (h0 : a ≠ 0) (h1 : b ≠ 0) (hq1 : ((a : Int) == (b : Int)) = q) (hq2 : (((ginv a : Nat) : Int) == ((ginv b : Nat) : Int)) = q) (w : World) (hT : TabAt w) :
    Calls Tryd.prog 6 #[.int .u8 (a : Int), .int .u8 (b : Int)] w fun e w' => e = .returned (.bool true) ∧ Below w.heap.size w w' := by
  have HT := Lib.hid hT
  have H0 := Lib.hid h0
  have H1 := Lib.hid h1
  have hz : ((a : Int) == 0) = false := by simp [h0]
  have hy : ((b : Int) == 0) = false := by simp [h1]
  have l1 := (ginv_facts a ha).1
  have l2 := (ginv_facts b hb).1
  clear hT h0 h1
  go_enter Tryd.func6, Tryd.ntmps6
  go_wp2_with (first
    | (go_at_call 9; refine (mul_any _ _ (by assumption) (by assumption) _).mono ?_; rintro e w' ⟨rfl, rfl⟩)
    | (go_at_call 10; ((with_reducible refine (inv_inv a ha H0.out _).mono ?_); rintro e w' ⟨rfl, rfl⟩))
    | (go_at_call 10; ((with_reducible refine (inv_mul a b ha hb H0.out H1.out _).mono ?_); rintro e w' ⟨rfl, rfl⟩))
    | (go_at_call 10; ((with_reducible refine (inv_any a ha (Nat.pos_of_ne_zero H0.out) _).mono ?_); rintro e w' ⟨rfl, rfl⟩))
    | (go_at_call 10; ((with_reducible refine (inv_any b hb (Nat.pos_of_ne_zero H1.out) _).mono ?_); rintro e w' ⟨rfl, rfl⟩))
    | (go_at_call 11; refine (wakes_any _ HT.out).mono ?_; rintro e w2 ⟨rfl, hb2⟩))
  go_ret
  exact ⟨rfl, hb2⟩

/-- FieldInverses returns true, whatever two bytes it is given. -/
theorem inverses_any (a b : Nat) (ha : a < 256) (hb : b < 256) (w : World) (hT : TabAt w) :
    Calls Tryd.prog 6 #[.int .u8 (a : Int), .int .u8 (b : Int)] w fun e w' => e = .returned (.bool true) ∧ Below w.heap.size w w' := by
  by_cases h0 : a = 0
  · exact inverses_zero a b (.inl h0) w hT
  · by_cases h1 : b = 0
    · exact inverses_zero a b (.inr h1) w hT
    · have hi := ginv_inj a b ha hb h0 h1
      refine inverses_core a b (decide (a = b)) ha hb h0 h1 ?_ ?_ w hT
      · rw [Bool.eq_iff_iff]
        simp only [beq_iff_eq, decide_eq_true_eq]
        omega
      · rw [Bool.eq_iff_iff]
        simp only [beq_iff_eq, decide_eq_true_eq]
        omega

end Go.Proofs.YtbahdcebgcgeeaaDoor
