/- The contracts of the document's product of bytes, and of its inverse. -/
import Derived.Lib.QuoteBits
import Derived.Test.YtbahdcebgcgeeaaDoorB
import Derived.Test.YtbahdcebgcgeeaaDoorG
namespace Go.Proofs.YtbahdcebgcgeeaaDoor
open Go.RowKit

theorem i64_xor_nat (a b : Nat) (ha : a < 512) (hb : b < 512) : bits .xor .i64 (a : Int) (b : Int) = ((a ^^^ b : Nat) : Int) := by
  show IntKind.i64.wrap ((BitVec.ofInt 64 (a : Int) ^^^ BitVec.ofInt 64 (b : Int)).toNat : Int) = _
  rw [BitVec.toNat_xor, ofInt_u64 a (by omega), ofInt_u64 b (by omega)]
  have : a ^^^ b < 2 ^ 9 := Nat.xor_lt_two_pow (n := 9) ha hb
  exact Lib.wrap_i64_small _ (by omega)
theorem dbl_high : ∀ x, x < 256 → 128 ≤ x → (x * 2) ^^^ 283 = dbl x := by decide +kernel
theorem dbl_low : ∀ x, x < 128 → x * 2 = dbl x := by decide +kernel
theorem dbl_hi (x : Nat) (hx : x < 256) (h : 128 ≤ x) : bits .xor .i64 ((x : Int) * 2) 283 = (dbl x : Nat) := by
  have := i64_xor_nat (x * 2) 283 (by omega) (by decide)
  rw [dbl_high x hx h] at this
  simpa using this
theorem dbl_lo (x : Nat) (h : x < 128) : (x : Int) * 2 = (dbl x : Nat) := by rw [← dbl_low x h]; simp
theorem gmulF_any (n a b o : Nat) : gmulF (n + 1) a b o = gmulF n (dbl a) (b / 2) (if b % 2 = 1 then o ^^^ a else o) := by
  by_cases h : b = 0
  · subst h; simp [gmulF_zero]
  · exact gmulF_step n a b o h

set_option maxRecDepth 100000 in
set_option maxHeartbeats 400000 in
theorem refMul_any (a b : Nat) (ha : a < 256) (hb : b < 256) (w : World) :
    Calls Tryd.prog 17 #[.int .u8 (a : Int), .int .u8 (b : Int)] w fun e w' => e = .returned (.int .u8 (gmul a b : Nat)) ∧ w = w' := by
  go_enter Tryd.func17, Tryd.ntmps17
  go_wp2
  go_loop [5, 6, 7] (fun o x i => ∃ k x' o' : Nat, k ≤ 8 ∧ i = .int .i64 (k : Int) ∧ x = .int .i64 (x' : Int) ∧ o = .int .i64 (o' : Int) ∧ x' < 256 ∧ o' < 256 ∧ gmulF (8 - k) x' (b / 2 ^ k) o' = gmul a b) (fun _ _ i => 8 - (intOf i).toNat)
  case atStart => exact ⟨0, a, 0, by omega, rfl, rfl, rfl, ha, by decide, by simp [gmul]⟩
  case round =>
    obtain ⟨k, x, o, hk, rfl, rfl, rfl, hx, ho, hg⟩ := hrel
    by_cases hlt : k < 8
    · obtain ⟨p, hp⟩ : ∃ p, b / 2 ^ k = p := ⟨_, rfl⟩
      have hpl : p < 256 := by rw [← hp]; exact Nat.lt_of_le_of_lt (Nat.div_le_self _ _) hb
      have hshr : (b : Int) / 2 ^ k = (p : Int) := by rw [← hp]; simp
      have hand : bits .and .u8 (p : Int) 1 = ((p % 2 : Nat) : Int) := by
        have := u8_and_nat p 1 hpl (by decide)
        rw [Nat.and_one_is_mod] at this
        exact this
      have x1 := i64_xor_nat o x (by omega) (by omega)
      have hlo := xor_lt ho hx
      have hs : gmulF (8 - (k + 1)) (dbl x) (b / 2 ^ (k + 1)) (if p % 2 = 1 then o ^^^ x else o) = gmul a b := by
        rw [← hg, show 8 - k = 8 - (k + 1) + 1 by omega, gmulF_any, Nat.pow_succ, ← Nat.div_div_eq_div_mul, hp]
      have HS := Lib.hid hs
      have HX := Lib.hid x1
      have hd := dbl_lt x
      clear hs hp hg x1
      have hm : (8 : Int) - ((k : Int) + 1) = 8 - (k : Int) - 1 := by omega
      by_cases h1 : p % 2 = 1
      · have ht : ((p : Int) % 2 == 1) = true := by simp; omega
        rw [if_pos h1] at HS
        by_cases h2 : 128 ≤ x
        · have hd := Lib.hid (dbl_hi x hx h2)
          go_wp2
          go_round
          case rel => exact ⟨k + 1, dbl x, o ^^^ x, by omega, by go_num, by rw [hd.out], by rw [HX.out], by assumption, hlo, HS.out⟩
          case measure => simp [intOf]; omega
        · have hd := Lib.hid (dbl_lo x (by omega))
          go_wp2
          go_round
          case rel => exact ⟨k + 1, dbl x, o ^^^ x, by omega, by go_num, by rw [hd.out], by rw [HX.out], by assumption, hlo, HS.out⟩
          case measure => simp [intOf]; omega
      · have ht : ((p : Int) % 2 == 1) = false := by rw [beq_eq_false_iff_ne]; omega
        rw [if_neg h1] at HS
        by_cases h2 : 128 ≤ x
        · have hd := Lib.hid (dbl_hi x hx h2)
          go_wp2
          go_round
          case rel => exact ⟨k + 1, dbl x, o, by omega, by go_num, by rw [hd.out], rfl, by assumption, ho, HS.out⟩
          case measure => simp [intOf]; omega
        · have hd := Lib.hid (dbl_lo x (by omega))
          go_wp2
          go_round
          case rel => exact ⟨k + 1, dbl x, o, by omega, by go_num, by rw [hd.out], rfl, by assumption, ho, HS.out⟩
          case measure => simp [intOf]; omega
    · obtain rfl : k = 8 := by omega
      have h0 : b / 2 ^ 8 = 0 := by omega
      rw [h0, gmulF_zero] at hg
      have HG := Lib.hid hg
      clear hg
      go_wp2
      go_ret
      exact ⟨ret_int (by rw [← HG.out]), rfl⟩

set_option maxRecDepth 100000 in
/-- The document's inverse: the first byte whose product with a is 1. -/
theorem refInv_zero (w : World) :
    Calls Tryd.prog 15 #[.int .u8 0] w fun e w' => e = .returned (.tuple #[.int .u8 0, .int .i64 20]) ∧ w = w' := by
  go_enter Tryd.func15, Tryd.ntmps15
  go_wp2
  go_loop [4] (fun i => ∃ k : Nat, 1 ≤ k ∧ k ≤ 256 ∧ i = .int .i64 (k : Int)) (fun i => 256 - (intOf i).toNat)
  case atStart => exact ⟨1, by omega, by omega, rfl⟩
  case round =>
    obtain ⟨k, h1, hk, rfl⟩ := hrel
    by_cases hlt : k < 256
    · have HZ := Lib.hid (zero_gmul k)
      go_wp2_with (go_at_call 17; refine (refMul_any 0 k (by decide) hlt _).mono ?_; rw [HZ.out]; rintro e w' ⟨rfl, rfl⟩)
      go_round
      case rel => exact ⟨k + 1, by omega, by omega, by go_num⟩
      case measure => simp [intOf]; omega
    · obtain rfl : k = 256 := by omega
      go_wp2
      go_ret2
      exact ⟨rfl, rfl⟩

set_option maxRecDepth 100000 in
theorem refInv_any (a : Nat) (ha : a < 256) (h0 : 0 < a) (w : World) :
    Calls Tryd.prog 15 #[.int .u8 (a : Int)] w fun e w' => e = .returned (.tuple #[.int .u8 (ginv a : Nat), .int .i64 0]) ∧ w = w' := by
  have hil := (ginv_facts a ha).1
  have hi0 := ((ginv_facts a ha).2 (by omega)).1
  have h1 := gmul_inv a ha (by omega)
  have hu : ∀ k, k < 256 → gmul a k = 1 → k = ginv a := fun k hk h => inv_unique a k ha hk (by omega) h
  obtain ⟨v, hv⟩ : ∃ v, ginv a = v := ⟨_, rfl⟩
  rw [hv] at hil hi0 h1 ⊢
  have hu : ∀ k, k < 256 → gmul a k = 1 → k = v := fun k hk h => (hu k hk h).trans hv
  clear hv
  have H1 := Lib.hid h1
  have HU := Lib.hid hu
  clear h1 hu
  have HL := Lib.hid (fun k => gmul_lt a k ha)
  go_enter Tryd.func15, Tryd.ntmps15
  go_wp2
  go_loop [4] (fun i => ∃ k : Nat, 1 ≤ k ∧ k ≤ 256 ∧ k ≤ v ∧ i = .int .i64 (k : Int)) (fun i => 256 - (intOf i).toNat)
  case atStart => exact ⟨1, by omega, by omega, by omega, rfl⟩
  case round =>
    obtain ⟨k, h1, hk, hkg, rfl⟩ := hrel
    have hlt : k < 256 := by omega
    obtain ⟨g, hg⟩ : ∃ g, gmul a k = g := ⟨_, rfl⟩
    have hgl : g < 256 := by rw [← hg]; exact HL.out k
    have HG := Lib.hid hg
    by_cases he : g = 1
    · have hk2 := HU.out k hlt (by rw [hg, he])
      have HK := Lib.hid hk2
      subst he
      clear hk2 hg HU HL H1 hgl hkg
      go_wp2_with (go_at_call 17; refine (refMul_any a k ha hlt _).mono ?_; rw [HG.out]; rintro e w' ⟨rfl, rfl⟩)
      go_ret2
      exact ⟨by rw [← HK.out]; rfl, rfl⟩
    · have hne : k ≠ v := fun e => he (by rw [← hg, e]; exact H1.out)
      have ht : ((g : Int) == 1) = false := by rw [beq_eq_false_iff_ne]; omega
      have hk2 : k + 1 ≤ v := by omega
      have HK := Lib.hid hk2
      clear hg hne he hk2
      go_wp2_with (go_at_call 17; refine (refMul_any a k ha hlt _).mono ?_; rw [HG.out]; rintro e w' ⟨rfl, rfl⟩)
      go_round
      case rel => exact ⟨k + 1, by omega, by omega, HK.out, by go_num⟩
      case measure => simp [intOf]; omega

end Go.Proofs.YtbahdcebgcgeeaaDoor
