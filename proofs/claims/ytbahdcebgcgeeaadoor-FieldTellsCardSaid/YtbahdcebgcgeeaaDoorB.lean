/- The contracts of field.Inv and field.Clmul. -/
import Derived.Test.YtbahdcebgcgeeaaDoorA
namespace Go.Proofs.YtbahdcebgcgeeaaDoor
open Go.RowKit

theorem ginvF_succ (n a o : Nat) : ginvF (n + 1) a o = ginvF n (gmul a a) (gmul o (gmul a a)) := rfl

theorem inv_zero (w : World) :
    Calls Tryd.prog 10 #[.int .u8 0] w fun e w' => e = .returned (.tuple #[.int .u8 0, .int .i64 20]) ∧ w = w' := by
  go_enter Tryd.func10, Tryd.ntmps10
  go_wp2
  go_ret2
  exact ⟨rfl, rfl⟩

theorem inv_any (a : Nat) (ha : a < 256) (h0 : 0 < a) (w : World) :
    Calls Tryd.prog 10 #[.int .u8 (a : Int)] w fun e w' => e = .returned (.tuple #[.int .u8 (ginv a : Nat), .int .i64 0]) ∧ w = w' := by
  have hne : ((a : Int) == 0) = false := by simp; omega
  go_enter Tryd.func10, Tryd.ntmps10
  go_wp2
  go_loop [0, 4, 7] (fun x o i => ∃ k a' o' : Nat, k ≤ 7 ∧ i = .int .i64 (k : Int) ∧ x = .int .u8 (a' : Int) ∧ o = .int .u8 (o' : Int) ∧ a' < 256 ∧ o' < 256 ∧ ginvF (7 - k) a' o' = ginv a) (fun _ _ i => 7 - (intOf i).toNat)
  case atStart => exact ⟨0, a, 1, by omega, rfl, rfl, rfl, ha, by decide, rfl⟩
  case round =>
    obtain ⟨k, a', o', hk, rfl, rfl, rfl, ha', ho', hg⟩ := hrel
    have HG := Lib.hid hg
    clear hg
    by_cases hlt : k < 7
    · have hs : ginvF (7 - k) a' o' = ginvF (7 - (k + 1)) (gmul a' a') (gmul o' (gmul a' a')) := by
        have e : 7 - k = (7 - (k + 1)) + 1 := by omega
        rw [e]; rfl
      have HS := Lib.hid hs
      clear hs
      go_wp2_with (go_at_call 9; refine (mul_any _ _ (by first | assumption | exact gmul_lt _ _ (by assumption)) (by first | assumption | exact gmul_lt _ _ (by assumption)) _).mono ?_; rintro e w' ⟨rfl, rfl⟩)
      go_round
      case rel => exact ⟨k + 1, gmul a' a', gmul o' (gmul a' a'), by omega, by go_num, rfl, rfl, gmul_lt _ _ ha', gmul_lt _ _ ho', by rw [← HG.out, HS.out]⟩
      case measure => simp [intOf]; omega
    · obtain rfl : k = 7 := by omega
      go_wp2
      go_ret2
      refine ⟨?_, rfl⟩
      have := HG.out
      simp only [Nat.sub_self, ginvF] at this
      rw [this]; rfl

end Go.Proofs.YtbahdcebgcgeeaaDoor
