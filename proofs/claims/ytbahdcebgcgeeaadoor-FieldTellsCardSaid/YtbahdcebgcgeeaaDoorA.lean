/- The contracts of field.double and field.Mul: what they return, for every byte; the world stays. -/
import Derived.WalkKit
import Derived.Handy
import Derived.Lib.Hide
import Derived.Test.YtbahdcebgcgeeaaDoorProg
import Derived.Test.YtbahdcebgcgeeaaDoorM
namespace Go.Proofs.YtbahdcebgcgeeaaDoor
open Go.RowKit

theorem ret_int {k : IntKind} {a b : Int} (h : a = b) : Ending.returned (.int k a) = .returned (.int k b) := by rw [h]

theorem double_any (x : Nat) (w : World) :
    Calls Tryd.prog 26 #[.int .u8 (x : Int)] w fun e w' => e = .returned (.int .u8 (dbl x : Nat)) ∧ w = w' := by
  have h : bits .xor .u8 ((x : Int) * 2 % 256) (27 * ((x : Int) / 128) % 256) = ((dbl x : Nat) : Int) :=
    u8_xor_nat (x * 2 % 256) (27 * (x / 128) % 256) (Nat.mod_lt _ (by decide)) (Nat.mod_lt _ (by decide))
  have H := Lib.hid h
  clear h
  go_enter Tryd.func26, Tryd.ntmps26
  go_wp2
  go_ret
  exact ⟨ret_int H.out, rfl⟩

theorem mul_any (a b : Nat) (ha : a < 256) (hb : b < 256) (w : World) :
    Calls Tryd.prog 9 #[.int .u8 (a : Int), .int .u8 (b : Int)] w fun e w' => e = .returned (.int .u8 (gmul a b : Nat)) ∧ w = w' := by
  go_enter Tryd.func9, Tryd.ntmps9
  go_wp2
  go_loop [0, 1, 4] (fun x y o => ∃ n a' b' o' : Nat, x = .int .u8 (a' : Int) ∧ y = .int .u8 (b' : Int) ∧ o = .int .u8 (o' : Int) ∧ a' < 256 ∧ o' < 256 ∧ b' < 256 ∧ b' < 2 ^ n ∧ gmulF n a' b' o' = gmul a b) (fun _ y _ => (intOf y).toNat)
  case atStart => exact ⟨8, a, b, 0, rfl, rfl, rfl, ha, by decide, hb, hb, rfl⟩
  case round =>
    obtain ⟨n, a', b', o', rfl, rfl, rfl, ha', ho', hb', hn, hg⟩ := hrel
    have HG := Lib.hid hg
    clear hg
    by_cases h0 : b' = 0
    · subst h0
      go_wp2
      go_ret
      exact ⟨ret_int (by rw [← HG.out, gmulF_zero]), rfl⟩
    · have hand : bits .and .u8 (b' : Int) 1 = ((b' % 2 : Nat) : Int) := by
        have := u8_and_nat b' 1 hb' (by decide)
        rw [Nat.and_one_is_mod] at this
        exact this
      cases n with
      | zero => omega
      | succ n =>
      have hstep := gmulF_step n a' b' o' h0
      have hx : bits .xor .u8 (o' : Int) (a' : Int) = ((o' ^^^ a' : Nat) : Int) := u8_xor_nat o' a' ho' ha'
      have hlt := xor_lt ho' ha'
      have HX := Lib.hid hx
      have HS := Lib.hid hstep
      have HN := Lib.hid (show b' / 2 < 2 ^ n by rw [Nat.pow_succ] at hn; omega)
      clear hx hstep hn
      by_cases h1 : b' % 2 = 1
      · go_wp2_with (go_at_call 26; refine (double_any _ _).mono ?_; rintro e w' ⟨rfl, rfl⟩)
        go_round
        case rel => exact ⟨n, dbl a', b' / 2, o' ^^^ a', rfl, by go_num, by rw [HX.out], dbl_lt _, hlt, by omega, HN.out, by rw [← HG.out, HS.out, if_pos h1]⟩
        case measure => simp [intOf]; omega
      · go_wp2_with (go_at_call 26; refine (double_any _ _).mono ?_; rintro e w' ⟨rfl, rfl⟩)
        go_round
        case rel => exact ⟨n, dbl a', b' / 2, o', rfl, by go_num, rfl, dbl_lt _, ho', by omega, HN.out, by rw [← HG.out, HS.out, if_neg h1]⟩
        case measure => simp [intOf]; omega

end Go.Proofs.YtbahdcebgcgeeaaDoor
