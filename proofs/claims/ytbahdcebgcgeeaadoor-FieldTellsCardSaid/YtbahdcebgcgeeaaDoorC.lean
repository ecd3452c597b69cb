/- The contracts of math/bits.TrailingZeros64 and field.Clmul. -/
import Derived.Test.YtbahdcebgcgeeaaDoorA
import Derived.Test.YtbahdcebgcgeeaaDoorK
import Derived.Lib.TrailingZeros
namespace Go.Proofs.YtbahdcebgcgeeaaDoor
open Go.RowKit

/-- The library's table of the de Bruijn look-up, in its variable. -/
def TabAt (w : World) : Prop := ∀ j, j < 64 → w.cell? ⟨0, j, none⟩ = some (.int .u8 (Lib.deBruijn64tab.getD j 0 : Nat))

theorem tz_core (x k idx : Nat) (w : World) (hx0 : ((x : Int) == 0) = false)
    (key : IntKind.u64.wrap (bits BinOp.and IntKind.u64 (x : Int) (IntKind.u64.wrap (-(x : Int))) * 285870213051353865) / 288230376151711744 = (idx : Int))
    (hi : idx < 64) (hk : k < 64) (hcell : w.cell? ⟨0, idx, none⟩ = some (.int .u8 k)) :
    Calls Tryd.prog 27 #[.int .u64 x] w fun e w' => e = .returned (.int .i64 k) ∧ w = w' := by
  go_enter Tryd.func27, Tryd.ntmps27
  go_wp2_with (simp only [key])
  go_ret
  exact ⟨rfl, rfl⟩

theorem tz_key (x a : Nat) (hx : x < 18446744073709551616) (hx0 : x ≠ 0) (hlow : x &&& (18446744073709551616 - x) = a) :
    IntKind.u64.wrap (bits BinOp.and IntKind.u64 (x : Int) (IntKind.u64.wrap (-(x : Int))) * 285870213051353865) / 288230376151711744 = ((a * 285870213051353865 % 18446744073709551616 / 288230376151711744 : Nat) : Int) := by
  have e1 : IntKind.u64.wrap (-(x : Int)) = ((18446744073709551616 - x : Nat) : Int) := by rw [IntKind.wrap_u64]; omega
  rw [e1, bits_and_u64_nat x _ hx (by omega), hlow, IntKind.wrap_u64]
  omega

/-- TrailingZeros64 at every x but 0. -/
theorem tz_any (x : Nat) (hx : x < 18446744073709551616) (hx0 : x ≠ 0) (w : World) (hT : TabAt w) :
    Calls Tryd.prog 27 #[.int .u64 x] w fun e w' => e = .returned (.int .i64 (Lib.ctz 64 x)) ∧ w = w' := by
  obtain ⟨hlow, hk⟩ := Lib.lowest_bit 64 x hx0 hx
  obtain ⟨hi, htab⟩ := Lib.deBruijn64_at _ hk
  have hcell := hT _ hi
  rw [htab] at hcell
  exact tz_core x _ _ w (by simp; omega) (tz_key x _ hx hx0 hlow) hi hk hcell

theorem lo_step (P a k : Nat) :
    bits .xor .u64 (lo P : Int) (IntKind.u64.wrap ((a : Int) * 2 ^ k)) = (lo (P ^^^ a <<< k) : Int) := by
  have e : IntKind.u64.wrap ((a : Int) * 2 ^ k) = ((a * 2 ^ k % 2 ^ 64 : Nat) : Int) := by
    rw [IntKind.wrap_u64]; simp
  unfold lo
  rw [e, u64_xor_nat _ _ (Nat.mod_lt _ (by decide)) (Nat.mod_lt _ (by decide)), xor_mod, Nat.shiftLeft_eq]

theorem hi_step (P a k : Nat) (hP : P < 2 ^ 128) (ha : a < 18446744073709551616) (hk : k < 64) :
    bits .xor .u64 (hi P : Int) ((a : Int) / 2 / 2 ^ (63 - k)) = (hi (P ^^^ a <<< k) : Int) := by
  have e0 : (a : Int) / 2 / 2 ^ (63 - k) = ((a / 2 / 2 ^ (63 - k) : Nat) : Int) := by simp
  have e1 : a / 2 / 2 ^ (63 - k) = a * 2 ^ k / 2 ^ 64 := by
    rw [Nat.div_div_eq_div_mul]
    have h1 : 2 * 2 ^ (63 - k) = 2 ^ (64 - k) := by rw [← Nat.pow_succ']; congr 1; omega
    have h2 : (2 : Nat) ^ 64 = 2 ^ (64 - k) * 2 ^ k := by rw [← Nat.pow_add]; congr 1; omega
    rw [h1, h2, Nat.mul_div_mul_right _ _ (Nat.two_pow_pos k)]
  have h3 : a * 2 ^ k / 2 ^ 64 < 18446744073709551616 := by rw [← e1]; exact Nat.lt_of_le_of_lt (Nat.div_le_self _ _) (by omega)
  unfold hi
  rw [e0, e1, u64_xor_nat _ _ (Nat.div_lt_of_lt_mul (by omega)) h3, xor_div, Nat.shiftLeft_eq]

theorem shl_lt (a k : Nat) (ha : a < 18446744073709551616) (hk : k < 64) : a <<< k < 2 ^ 128 := by
  rw [Nat.shiftLeft_eq]
  calc a * 2 ^ k < 2 ^ 64 * 2 ^ k := Nat.mul_lt_mul_of_pos_right (by omega) (Nat.two_pow_pos k)
    _ ≤ 2 ^ 64 * 2 ^ 64 := Nat.mul_le_mul_left _ (Nat.pow_le_pow_right (by decide) (by omega))
    _ = 2 ^ 128 := by decide

/-- What a round strikes off b, and what it puts to the product. -/
theorem round_fact (a b : Nat) (hb : b < 18446744073709551616) (h0 : b ≠ 0) : ∃ b2 : Nat, bits .and .u64 (b : Int) ((b : Int) - 1) = (b2 : Int) ∧ b2 < b ∧ clm a b = clm a b2 ^^^ a <<< Lib.ctz 64 b ∧ Lib.ctz 64 b < 64 := by
  have hc : Lib.ctz 64 b = Lib.ctzFrom 64 b := by simp [Lib.ctz, h0]
  obtain ⟨m, hm, hk⟩ := Lib.ctzFrom_spec 64 b (by omega) hb
  rw [hc]
  generalize Lib.ctzFrom 64 b = k at hm hk
  refine ⟨2 ^ (k + 1) * m, ?_, ?_, ?_, hk⟩
  · have e : (b : Int) - 1 = ((b - 1 : Nat) : Int) := by omega
    rw [e, u64_and_nat b _ hb (by omega)]
    rw [hm, strike]
  · rw [hm, Nat.pow_succ, Nat.mul_assoc]
    exact Nat.mul_lt_mul_of_pos_left (by omega) (Nat.two_pow_pos k)
  · rw [hm, strike_xor k m, clm, cl_xor_right, clm, cl_pow]
    simp [hk]

theorem clmul_any (a b : Nat) (ha : a < 18446744073709551616) (hb : b < 18446744073709551616) (w : World) (hT : TabAt w) :
    Calls Tryd.prog 14 #[.int .u64 a, .int .u64 b] w fun e w' => e = .returned (.tuple #[.int .u64 (lo (clm a b) : Nat), .int .u64 (hi (clm a b) : Nat)]) ∧ w = w' := by
  go_enter Tryd.func14, Tryd.ntmps14
  go_wp2
  go_loop [1, 4, 5] (fun y l h => ∃ b' P : Nat, y = .int .u64 (b' : Int) ∧ l = .int .u64 (lo P : Int) ∧ h = .int .u64 (hi P : Int) ∧ b' < 18446744073709551616 ∧ P < 2 ^ 128 ∧ P ^^^ clm a b' = clm a b) (fun y _ _ => (intOf y).toNat)
  case atStart => exact ⟨b, 0, rfl, rfl, rfl, hb, by decide, by simp⟩
  case round =>
    obtain ⟨b', P, rfl, rfl, rfl, hb', hP, hg⟩ := hrel
    by_cases h0 : b' = 0
    · subst h0
      have HP := Lib.hid (show P = clm a b by rw [← hg, clm, cl_zero, Nat.xor_zero])
      clear hg
      go_wp2
      go_ret2
      refine ⟨?_, rfl⟩
      rw [← HP.out]; rfl
    · obtain ⟨b2, hand, hlt, hcl, hk64⟩ := round_fact a b' hb' h0
      obtain ⟨k, hk⟩ : ∃ k, Lib.ctz 64 b' = k := ⟨_, rfl⟩
      rw [hk] at hk64 hcl
      have HK := Lib.hid hk
      have HL := Lib.hid (lo_step P a k)
      have HH := Lib.hid (hi_step P a k hP ha hk64)
      have HB := Lib.hid hand
      have HG := Lib.hid (show (P ^^^ a <<< k) ^^^ clm a b2 = clm a b by rw [← hg, hcl, Nat.xor_assoc, Nat.xor_comm (a <<< k)])
      have HT := Lib.hid hT
      have HP2 := Lib.hid (show P ^^^ a <<< k < 2 ^ 128 from Nat.xor_lt_two_pow hP (shl_lt a k ha hk64))
      have HP := Lib.hid hP
      clear hk hand hcl hg hT hP
      have hne : ((b' : Int) == 0) = false := by simp; omega
      go_wp2_with (go_at_call 27; refine (tz_any _ (by assumption) (by assumption) _ HT.out).mono ?_; rw [HK.out]; rintro e w' ⟨rfl, rfl⟩)
      go_round
      case rel => exact ⟨b2, P ^^^ a <<< k, by rw [HB.out], by rw [HL.out], by rw [HH.out], by omega, HP2.out, HG.out⟩
      case measure => rw [HB.out]; simp [intOf]; omega

end Go.Proofs.YtbahdcebgcgeeaaDoor
