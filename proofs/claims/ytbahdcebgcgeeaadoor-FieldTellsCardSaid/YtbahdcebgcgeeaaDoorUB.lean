/- The contract of the document's product of words. -/
import Derived.Test.YtbahdcebgcgeeaaDoorC
namespace Go.Proofs.YtbahdcebgcgeeaaDoor
open Go.RowKit

theorem hi_shr (a k : Nat) (hk : k < 64) : (a : Int) / 2 ^ (64 - k) = ((a * 2 ^ k / 2 ^ 64 : Nat) : Int) := by
  have h2 : (2 : Nat) ^ 64 = 2 ^ (64 - k) * 2 ^ k := by rw [← Nat.pow_add]; congr 1; omega
  rw [h2, Nat.mul_div_mul_right _ _ (Nat.two_pow_pos k)]
  simp
theorem hi_step64 (P a k : Nat) (hP : P < 2 ^ 128) (ha : a < 18446744073709551616) (hk : k < 64) :
    bits .xor .u64 (hi P : Int) ((a : Int) / 2 ^ (64 - k)) = (hi (P ^^^ a <<< k) : Int) := by
  have h3 : a * 2 ^ k / 2 ^ 64 < 18446744073709551616 := by
    have : a * 2 ^ k < 2 ^ 64 * 2 ^ 64 := Nat.lt_of_lt_of_le (Nat.mul_lt_mul_of_pos_right (show a < 2 ^ 64 by omega) (Nat.two_pow_pos k)) (Nat.mul_le_mul_left _ (Nat.pow_le_pow_right (by decide) (by omega)))
    exact Nat.div_lt_of_lt_mul this
  unfold hi
  rw [hi_shr a k hk, u64_xor_nat _ _ (Nat.div_lt_of_lt_mul (by omega)) h3, xor_div, Nat.shiftLeft_eq]
theorem hi_zero (P a : Nat) (ha : a < 18446744073709551616) : hi (P ^^^ a <<< 0) = hi P := by
  unfold hi
  rw [xor_div, Nat.shiftLeft_zero, Nat.div_eq_of_lt (show a < 2 ^ 64 by omega), Nat.xor_zero]
theorem cl_lt (k a b : Nat) (ha : a < 18446744073709551616) (hk : k ≤ 64) : cl k a b < 2 ^ 128 := by
  induction k with
  | zero => simp [cl]
  | succ k ih =>
    unfold cl
    refine Nat.xor_lt_two_pow (ih (by omega)) ?_
    split
    · exact shl_lt a k ha (by omega)
    · decide

set_option maxRecDepth 100000 in
set_option maxHeartbeats 400000 in
theorem refClmul_any (a b : Nat) (ha : a < 18446744073709551616) (hb : b < 18446744073709551616) (w : World) :
    Calls Tryd.prog 16 #[.int .u64 a, .int .u64 b] w fun e w' => e = .returned (.tuple #[.int .u64 (lo (clm a b) : Nat), .int .u64 (hi (clm a b) : Nat)]) ∧ w = w' := by
  go_enter Tryd.func16, Tryd.ntmps16
  go_wp2
  go_loop [6, 7, 8] (fun l h i => ∃ k P : Nat, k ≤ 64 ∧ i = .int .i64 (k : Int) ∧ l = .int .u64 (lo P : Int) ∧ h = .int .u64 (hi P : Int) ∧ P = cl k a b) (fun _ _ i => 64 - (intOf i).toNat)
  case atStart => exact ⟨0, 0, by omega, rfl, rfl, rfl, rfl⟩
  case round =>
    obtain ⟨k, P, hk, rfl, rfl, rfl, hP⟩ := hrel
    by_cases hlt : k < 64
    · obtain ⟨p, hp⟩ : ∃ p, b / 2 ^ k = p := ⟨_, rfl⟩
      have hpl : p < 18446744073709551616 := by rw [← hp]; exact Nat.lt_of_le_of_lt (Nat.div_le_self _ _) hb
      have hshr : (b : Int) / 2 ^ k = (p : Int) := by rw [← hp]; simp
      have hand : bits .and .u64 (p : Int) 1 = ((p % 2 : Nat) : Int) := by
        have := u64_and_nat p 1 hpl (by decide)
        rw [Nat.and_one_is_mod] at this
        exact this
      have hPl : P < 2 ^ 128 := by rw [hP]; exact cl_lt k a b ha hk
      have hbit : b.testBit k = decide (p % 2 = 1) := by rw [Nat.testBit_eq_decide_div_mod_eq, hp]
      by_cases h1 : p % 2 = 1
      · have ht : ((p : Int) % 2 == 0) = false := by rw [beq_eq_false_iff_ne]; omega
        have hs : P ^^^ a <<< k = cl (k + 1) a b := by rw [cl, hbit, if_pos (by simpa using h1), hP]
        have HS := Lib.hid hs
        have HL := Lib.hid (lo_step P a k)
        by_cases h0 : k = 0
        · have HZ := Lib.hid (show hi (P ^^^ a <<< k) = hi P by rw [h0]; exact hi_zero P a ha)
          have hk0 : ¬ (0 : Int) < (k : Int) := by omega
          clear hs hp hbit hP hPl h0
          go_wp2
          go_round
          case rel => exact ⟨k + 1, P ^^^ a <<< k, by omega, by go_num, by rw [HL.out], by rw [HZ.out], HS.out⟩
          case measure => simp [intOf]; omega
        · have HH := Lib.hid (hi_step64 P a k hPl ha hlt)
          clear hs hp hbit hP hPl
          go_wp2
          go_round
          case rel => exact ⟨k + 1, P ^^^ a <<< k, by omega, by go_num, by rw [HL.out], by rw [HH.out], HS.out⟩
          case measure => simp [intOf]; omega
      · have ht : ((p : Int) % 2 == 0) = true := by simp; omega
        have hs : P = cl (k + 1) a b := by rw [cl, hbit, if_neg (by simpa using h1), hP, Nat.xor_zero]
        have HS := Lib.hid hs
        clear hs hp hbit hP hPl
        go_wp2
        go_round
        case rel => exact ⟨k + 1, P, by omega, by go_num, rfl, rfl, HS.out⟩
        case measure => simp [intOf]; omega
    · obtain rfl : k = 64 := by omega
      have HP := Lib.hid hP
      clear hP
      go_wp2
      go_ret2
      exact ⟨by rw [HP.out]; rfl, rfl⟩

end Go.Proofs.YtbahdcebgcgeeaaDoor
