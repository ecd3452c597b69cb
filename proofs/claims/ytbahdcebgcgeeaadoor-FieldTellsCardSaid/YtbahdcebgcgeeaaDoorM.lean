/- Plain mathematics of the field of 256 elements, on natural numbers: doubling, products, the power 254. No program in sight. -/
namespace Go.Proofs.YtbahdcebgcgeeaaDoor

/-- Twice a byte, in the field. -/
def dbl (x : Nat) : Nat := (x * 2 % 256) ^^^ (27 * (x / 128) % 256)
/-- The product's loop, with a bound on its rounds. -/
def gmulF : Nat → Nat → Nat → Nat → Nat
  | 0, _, _, o => o
  | n + 1, a, b, o => if b = 0 then o else gmulF n (dbl a) (b / 2) (if b % 2 = 1 then o ^^^ a else o)
/-- The product. -/
def gmul (a b : Nat) : Nat := gmulF 8 a b 0

theorem dbl_lt (x : Nat) : dbl x < 256 := Nat.xor_lt_two_pow (n := 8) (Nat.mod_lt _ (by decide)) (Nat.mod_lt _ (by decide))
theorem xor_lt {a b : Nat} (ha : a < 256) (hb : b < 256) : a ^^^ b < 256 := Nat.xor_lt_two_pow (n := 8) ha hb

theorem gmulF_zero (n a o : Nat) : gmulF n a 0 o = o := by cases n <;> simp [gmulF]
theorem gmulF_step (n a b o : Nat) (h : b ≠ 0) : gmulF (n + 1) a b o = gmulF n (dbl a) (b / 2) (if b % 2 = 1 then o ^^^ a else o) := by
  simp [gmulF, h]
theorem gmulF_lt (n : Nat) : ∀ (a b o : Nat), a < 256 → o < 256 → gmulF n a b o < 256 := by
  induction n with
  | zero => intro a b o _ ho; exact ho
  | succ n ih =>
    intro a b o ha ho
    unfold gmulF
    split
    · exact ho
    · refine ih _ _ _ (dbl_lt _) ?_
      split
      · exact xor_lt ho ha
      · exact ho
theorem gmul_lt (a b : Nat) (ha : a < 256) : gmul a b < 256 := gmulF_lt 8 a b 0 ha (by decide)

/-- The inverse's loop: rounds of 'a = a * a; o = o * a'. -/
def ginvF : Nat → Nat → Nat → Nat
  | 0, _, o => o
  | n + 1, a, o => ginvF n (gmul a a) (gmul o (gmul a a))
/-- The inverse: the power 254. -/
def ginv (a : Nat) : Nat := ginvF 7 a 1

end Go.Proofs.YtbahdcebgcgeeaaDoor
