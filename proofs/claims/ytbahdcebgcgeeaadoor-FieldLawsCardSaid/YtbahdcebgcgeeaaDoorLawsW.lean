/- The walk of FieldLaws: it returns true for every three bytes, in every world that holds the library's table. -/
import Derived.Test.YtbahdcebgcgeeaaDoorF
import Derived.Test.YtbahdcebgcgeeaaDoorG
namespace Go.Proofs.YtbahdcebgcgeeaaDoor
open Go.RowKit

theorem mul_as (a b p : Nat) (ha : a < 256) (hb : b < 256) (h : gmul a b = p) (w : World) :
    Calls Tryd.prog 9 #[.int .u8 (a : Int), .int .u8 (b : Int)] w fun e w' => e = .returned (.int .u8 (p : Nat)) ∧ w = w' := by
  subst h; exact mul_any a b ha hb w
theorem mul_one_any (a : Nat) (ha : a < 256) (w : World) :
    Calls Tryd.prog 9 #[.int .u8 (a : Int), .int .u8 1] w fun e w' => e = .returned (.int .u8 (a : Nat)) ∧ w = w' := mul_as a 1 a ha (by decide) (gmul_one a ha) w
theorem mul_zero_any (a : Nat) (ha : a < 256) (w : World) :
    Calls Tryd.prog 9 #[.int .u8 (a : Int), .int .u8 0] w fun e w' => e = .returned (.int .u8 0) ∧ w = w' := mul_as a 0 0 ha (by decide) (gmul_zero a) w
theorem mul_inv_any (a : Nat) (ha : a < 256) (h0 : a ≠ 0) (w : World) :
    Calls Tryd.prog 9 #[.int .u8 (a : Int), .int .u8 (ginv a : Nat)] w fun e w' => e = .returned (.int .u8 1) ∧ w = w' := mul_as a (ginv a) 1 ha (ginv_facts a ha).1 (gmul_inv a ha h0) w
theorem inv_at_zero (a : Nat) (h : a = 0) (w : World) :
    Calls Tryd.prog 10 #[.int .u8 (a : Int)] w fun e w' => e = .returned (.tuple #[.int .u8 0, .int .i64 20]) ∧ w = w' := by
  subst h; exact inv_zero w

set_option maxRecDepth 100000 in
theorem laws_zero (a b c : Nat) (ha : a < 256) (hb : b < 256) (hc : c < 256) (h0 : a = 0) (w : World) (hT : TabAt w) :
    Calls Tryd.prog 3 #[.int .u8 (a : Int), .int .u8 (b : Int), .int .u8 (c : Int)] w fun e w' => e = .returned (.bool true) ∧ Below w.heap.size w w' := by
  have HT := Lib.hid hT
  have H0 := Lib.hid h0
  have hz : ((a : Int) == 0) = true := by simp [h0]
  have e1 := gmul_comm b a hb ha
  have e2 := gmul_assoc a b c ha hb hc
  have e3 := gmul_xor_right a b c
  have x1 := u8_xor_nat b c hb hc
  have x2 := u8_xor_nat (gmul a b) (gmul a c) (gmul_lt a b ha) (gmul_lt a c ha)
  have l1 := xor_lt hb hc
  have l2 := gmul_lt a b ha
  have l3 := gmul_lt b c hb
  clear hT h0
  go_enter Tryd.func3, Tryd.ntmps3
  go_wp2_with (first
    | (go_at_call 9; ((with_reducible refine (mul_one_any _ (by assumption) _).mono ?_); rintro e w' ⟨rfl, rfl⟩))
    | (go_at_call 9; ((with_reducible refine (mul_zero_any _ (by assumption) _).mono ?_); rintro e w' ⟨rfl, rfl⟩))
    | (go_at_call 9; refine (mul_any _ _ (by assumption) (by assumption) _).mono ?_; rintro e w' ⟨rfl, rfl⟩)
    | (go_at_call 10; refine (inv_at_zero _ H0.out _).mono ?_; rintro e w' ⟨rfl, rfl⟩)
    | (go_at_call 11; refine (wakes_any _ HT.out).mono ?_; rintro e w2 ⟨rfl, hb2⟩))
  go_ret
  exact ⟨rfl, hb2⟩

set_option maxRecDepth 100000 in
theorem laws_pos0 (a b c : Nat) (ha : a < 256) (hb : b < 256) (hc : c < 256) (h0 : a ≠ 0) (h1 : b = 0) (w : World) (hT : TabAt w) :
    Calls Tryd.prog 3 #[.int .u8 (a : Int), .int .u8 (b : Int), .int .u8 (c : Int)] w fun e w' => e = .returned (.bool true) ∧ Below w.heap.size w w' := by
  have HT := Lib.hid hT
  have H0 := Lib.hid h0
  have hz : ((a : Int) == 0) = false := by simp [h0]
  have hy : ((b : Int) == 0) = true := by simp [h1]
  clear h1
  have e1 := gmul_comm b a hb ha
  have e2 := gmul_assoc a b c ha hb hc
  have e3 := gmul_xor_right a b c
  have x1 := u8_xor_nat b c hb hc
  have x2 := u8_xor_nat (gmul a b) (gmul a c) (gmul_lt a b ha) (gmul_lt a c ha)
  have l1 := xor_lt hb hc
  have l2 := gmul_lt a b ha
  have l3 := gmul_lt b c hb
  clear hT h0
  go_enter Tryd.func3, Tryd.ntmps3
  go_wp2_with (first
    | (go_at_call 9; ((with_reducible refine (mul_one_any _ (by assumption) _).mono ?_); rintro e w' ⟨rfl, rfl⟩))
    | (go_at_call 9; ((with_reducible refine (mul_zero_any _ (by assumption) _).mono ?_); rintro e w' ⟨rfl, rfl⟩))
    | (go_at_call 9; ((with_reducible refine (mul_inv_any _ (by assumption) H0.out _).mono ?_); rintro e w' ⟨rfl, rfl⟩))
    | (go_at_call 9; refine (mul_any _ _ (by assumption) (by assumption) _).mono ?_; rintro e w' ⟨rfl, rfl⟩)
    | (go_at_call 10; refine (inv_any _ (by assumption) (Nat.pos_of_ne_zero H0.out) _).mono ?_; rintro e w' ⟨rfl, rfl⟩)
    | (go_at_call 11; refine (wakes_any _ HT.out).mono ?_; rintro e w2 ⟨rfl, hb2⟩))
  go_ret
  exact ⟨rfl, hb2⟩

set_option maxRecDepth 100000 in
theorem laws_pos1 (a b c : Nat) (ha : a < 256) (hb : b < 256) (hc : c < 256) (h0 : a ≠ 0) (h1 : b ≠ 0) (w : World) (hT : TabAt w) :
    Calls Tryd.prog 3 #[.int .u8 (a : Int), .int .u8 (b : Int), .int .u8 (c : Int)] w fun e w' => e = .returned (.bool true) ∧ Below w.heap.size w w' := by
  have HT := Lib.hid hT
  have H0 := Lib.hid h0
  have hz : ((a : Int) == 0) = false := by simp [h0]
  have hy : ((b : Int) == 0) = false := by simp [h1]
  have hx : (((gmul a b : Nat) : Int) != 0) = true := by simp [gmul_ne_zero a b ha hb h0 h1]
  clear h1
  have e1 := gmul_comm b a hb ha
  have e2 := gmul_assoc a b c ha hb hc
  have e3 := gmul_xor_right a b c
  have x1 := u8_xor_nat b c hb hc
  have x2 := u8_xor_nat (gmul a b) (gmul a c) (gmul_lt a b ha) (gmul_lt a c ha)
  have l1 := xor_lt hb hc
  have l2 := gmul_lt a b ha
  have l3 := gmul_lt b c hb
  clear hT h0
  go_enter Tryd.func3, Tryd.ntmps3
  go_wp2_with (first
    | (go_at_call 9; ((with_reducible refine (mul_one_any _ (by assumption) _).mono ?_); rintro e w' ⟨rfl, rfl⟩))
    | (go_at_call 9; ((with_reducible refine (mul_zero_any _ (by assumption) _).mono ?_); rintro e w' ⟨rfl, rfl⟩))
    | (go_at_call 9; ((with_reducible refine (mul_inv_any _ (by assumption) H0.out _).mono ?_); rintro e w' ⟨rfl, rfl⟩))
    | (go_at_call 9; refine (mul_any _ _ (by assumption) (by assumption) _).mono ?_; rintro e w' ⟨rfl, rfl⟩)
    | (go_at_call 10; refine (inv_any _ (by assumption) (Nat.pos_of_ne_zero H0.out) _).mono ?_; rintro e w' ⟨rfl, rfl⟩)
    | (go_at_call 11; refine (wakes_any _ HT.out).mono ?_; rintro e w2 ⟨rfl, hb2⟩))
  go_ret
  exact ⟨rfl, hb2⟩

/-- FieldLaws returns true, whatever three bytes it is given. -/
theorem laws_any (a b c : Nat) (ha : a < 256) (hb : b < 256) (hc : c < 256) (w : World) (hT : TabAt w) :
    Calls Tryd.prog 3 #[.int .u8 (a : Int), .int .u8 (b : Int), .int .u8 (c : Int)] w fun e w' => e = .returned (.bool true) ∧ Below w.heap.size w w' := by
  by_cases h0 : a = 0
  · exact laws_zero a b c ha hb hc h0 w hT
  · by_cases h1 : b = 0
    · exact laws_pos0 a b c ha hb hc h0 h1 w hT
    · exact laws_pos1 a b c ha hb hc h0 h1 w hT

end Go.Proofs.YtbahdcebgcgeeaaDoor
