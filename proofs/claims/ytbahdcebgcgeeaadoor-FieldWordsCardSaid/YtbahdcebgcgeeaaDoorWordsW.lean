/- The walk of FieldWords: it returns true for every three words and every number, in every world that holds the library's table. -/
import Derived.Test.YtbahdcebgcgeeaaDoorF
namespace Go.Proofs.YtbahdcebgcgeeaaDoor
open Go.RowKit

/-- The bit's number, as the law brings it into its range. -/
theorem bit_of (x : Int) : ∃ j : Nat, (wrap64 (x.tmod 64 + 64)).tmod 64 = (j : Int) ∧ j < 64 := by
  have h1 := Int.tmod_lt_of_pos x (show (0 : Int) < 64 by decide)
  have h2 := Int.lt_tmod_of_pos x (show (0 : Int) < 64 by decide)
  have e : wrap64 (x.tmod 64 + 64) = x.tmod 64 + 64 := by unfold wrap64; omega
  rw [e, Int.tmod_eq_emod_of_nonneg (by omega)]
  exact ⟨((x.tmod 64 + 64) % 64).toNat, by omega, by omega⟩

/-- A power of X. -/
def pw (j : Nat) : Nat := 2 ^ j
theorem pw_lt (j : Nat) (h : j < 64) : pw j < 18446744073709551616 := Nat.pow_lt_pow_right (m := j) (n := 64) (by decide) h
theorem pw_wrap (j : Nat) (h : j < 64) : IntKind.u64.wrap ((2 : Int) ^ j) = (pw j : Int) := by
  have := pw_lt j h
  have e : ((2 : Int) ^ j) = ((pw j : Nat) : Int) := by simp [pw]
  rw [e, IntKind.wrap_u64]
  omega
theorem shl_pw (a j : Nat) (h : j < 64) : IntKind.u64.wrap ((a : Int) * 2 ^ j) = (lo (clm a (pw j)) : Int) := by
  have e : clm a (pw j) = a <<< j := by rw [clm, pw, cl_pow]; simp [h]
  rw [e, IntKind.wrap_u64, lo, Nat.shiftLeft_eq]
  simp
theorem hi_pw (a j : Nat) (h : j < 64) : hi (clm a (pw j)) = a / 2 ^ (64 - j) := by
  have e : clm a (pw j) = a <<< j := by rw [clm, pw, cl_pow]; simp [h]
  have h2 : (2 : Nat) ^ 64 = 2 ^ (64 - j) * 2 ^ j := by rw [← Nat.pow_add]; congr 1; omega
  rw [e, hi, Nat.shiftLeft_eq, h2, Nat.mul_div_mul_right _ _ (Nat.two_pow_pos j)]

theorem cl_lt (n a b : Nat) (ha : a < 18446744073709551616) (hn : n ≤ 64) : cl n a b < 2 ^ 128 := by
  induction n with
  | zero => exact Nat.two_pow_pos 128
  | succ n ih =>
    unfold cl
    refine Nat.xor_lt_two_pow (ih (by omega)) ?_
    split
    · exact shl_lt a n ha (by omega)
    · exact Nat.two_pow_pos 128
theorem hi_lt (a b : Nat) (ha : a < 18446744073709551616) : hi (clm a b) < 18446744073709551616 := by
  have := cl_lt 64 a b ha (by omega)
  unfold hi clm
  exact Nat.div_lt_of_lt_mul (by omega)

set_option maxRecDepth 100000 in
set_option maxHeartbeats 400000 in
theorem words_pos (a b c : Nat) (x : Int) (j : Nat) (hj : (wrap64 (x.tmod 64 + 64)).tmod 64 = (j : Int)) (hj64 : j < 64) (hpos : 0 < j) (ha : a < 18446744073709551616) (hb : b < 18446744073709551616) (hc : c < 18446744073709551616) (w : World) (hT : TabAt w) :
    Calls Tryd.prog 5 #[.int .u64 (a : Int), .int .u64 (b : Int), .int .u64 (c : Int), .int .i64 x] w fun e w' => e = .returned (.bool true) ∧ Below w.heap.size w w' := by
  have HT := Lib.hid hT
  clear hT
  have hm := clm_comm b a hb ha
  have x1 := u64_xor_nat b c hb hc
  have l1 : b ^^^ c < 18446744073709551616 := Nat.xor_lt_two_pow (n := 64) hb hc
  have hp := pw_wrap j hj64
  have lp := pw_lt j hj64
  have hs := shl_pw a j hj64
  have x2 : bits .xor .u64 (lo (clm a b) : Int) (lo (clm a c) : Int) = (lo (clm a (b ^^^ c)) : Int) := by
    rw [clm, clm, clm, cl_xor_right]
    unfold lo
    rw [u64_xor_nat _ _ (Nat.mod_lt _ (by decide)) (Nat.mod_lt _ (by decide)), xor_mod]
  have x3 : bits .xor .u64 (hi (clm a b) : Int) (hi (clm a c) : Int) = (hi (clm a (b ^^^ c)) : Int) := by
    rw [u64_xor_nat _ _ (hi_lt a b ha) (hi_lt a c ha), clm, clm, clm, cl_xor_right]
    unfold hi
    rw [xor_div]
  have x4 : (a : Int) / 2 ^ (64 - j) = (hi (clm a (pw j)) : Int) := by rw [hi_pw a j hj64]; simp
  go_enter Tryd.func5, Tryd.ntmps5
  go_wp2_with (first
    | (go_at_call 14; refine (clmul_any _ _ (by assumption) (by assumption) _ HT.out).mono ?_; rintro e w' ⟨rfl, rfl⟩)
    | (go_at_call 11; refine (wakes_any _ HT.out).mono ?_; rintro e w2 ⟨rfl, hb2⟩))
  go_ret
  exact ⟨rfl, hb2⟩

set_option maxRecDepth 100000 in
set_option maxHeartbeats 400000 in
theorem words_zero (a b c : Nat) (x : Int) (j : Nat) (hj : (wrap64 (x.tmod 64 + 64)).tmod 64 = (j : Int)) (hj64 : j < 64) (hz : j < 1) (ha : a < 18446744073709551616) (hb : b < 18446744073709551616) (hc : c < 18446744073709551616) (w : World) (hT : TabAt w) :
    Calls Tryd.prog 5 #[.int .u64 (a : Int), .int .u64 (b : Int), .int .u64 (c : Int), .int .i64 x] w fun e w' => e = .returned (.bool true) ∧ Below w.heap.size w w' := by
  have HT := Lib.hid hT
  clear hT
  have hm := clm_comm b a hb ha
  have x1 := u64_xor_nat b c hb hc
  have l1 : b ^^^ c < 18446744073709551616 := Nat.xor_lt_two_pow (n := 64) hb hc
  have hp := pw_wrap j hj64
  have lp := pw_lt j hj64
  have hs := shl_pw a j hj64
  have x2 : bits .xor .u64 (lo (clm a b) : Int) (lo (clm a c) : Int) = (lo (clm a (b ^^^ c)) : Int) := by
    rw [clm, clm, clm, cl_xor_right]
    unfold lo
    rw [u64_xor_nat _ _ (Nat.mod_lt _ (by decide)) (Nat.mod_lt _ (by decide)), xor_mod]
  have x3 : bits .xor .u64 (hi (clm a b) : Int) (hi (clm a c) : Int) = (hi (clm a (b ^^^ c)) : Int) := by
    rw [u64_xor_nat _ _ (hi_lt a b ha) (hi_lt a c ha), clm, clm, clm, cl_xor_right]
    unfold hi
    rw [xor_div]
  have x4 : ((hi (clm a (pw j)) : Int) == 0) = true := by
    rw [hi_pw a j hj64, show 64 - j = 64 by omega, Nat.div_eq_of_lt (by omega)]; rfl
  go_enter Tryd.func5, Tryd.ntmps5
  go_wp2_with (first
    | (go_at_call 14; refine (clmul_any _ _ (by assumption) (by assumption) _ HT.out).mono ?_; rintro e w' ⟨rfl, rfl⟩)
    | (go_at_call 11; refine (wakes_any _ HT.out).mono ?_; rintro e w2 ⟨rfl, hb2⟩))
  go_ret
  exact ⟨rfl, hb2⟩

/-- FieldWords returns true, whatever three words and number it is given. -/
theorem words_any (a b c : Nat) (x : Int) (ha : a < 18446744073709551616) (hb : b < 18446744073709551616) (hc : c < 18446744073709551616) (w : World) (hT : TabAt w) :
    Calls Tryd.prog 5 #[.int .u64 (a : Int), .int .u64 (b : Int), .int .u64 (c : Int), .int .i64 x] w fun e w' => e = .returned (.bool true) ∧ Below w.heap.size w w' := by
  obtain ⟨j, hj, hj64⟩ := bit_of x
  by_cases h : 0 < j
  · exact words_pos a b c x j hj hj64 h ha hb hc w hT
  · exact words_zero a b c x j hj hj64 (by omega) ha hb hc w hT

end Go.Proofs.YtbahdcebgcgeeaaDoor
