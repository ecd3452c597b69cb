/- Plain mathematics of products of words as polynomials over two, on natural numbers. No program in sight. -/
namespace Go.Proofs.YtbahdcebgcgeeaaDoor

theorem xor_lc (a b c : Nat) : a ^^^ (b ^^^ c) = b ^^^ (a ^^^ c) := by rw [← Nat.xor_assoc, Nat.xor_comm a b, Nat.xor_assoc]
theorem xor_cancel (a b : Nat) : a ^^^ (a ^^^ b) = b := by rw [← Nat.xor_assoc, Nat.xor_self, Nat.zero_xor]

/-- f goes with exclusive ors, below 2^n. -/
def AddOn (n : Nat) (f : Nat → Nat) : Prop := ∀ x y, x < 2 ^ n → y < 2 ^ n → f (x ^^^ y) = f x ^^^ f y

theorem AddOn.zero {n : Nat} {f : Nat → Nat} (h : AddOn n f) : f 0 = 0 := by
  have := h 0 0 (Nat.two_pow_pos n) (Nat.two_pow_pos n)
  simpa using this

theorem split_top (n x : Nat) (h : x < 2 ^ (n + 1)) : x = (x % 2 ^ n) ^^^ (if x.testBit n then 2 ^ n else 0) := by
  apply Nat.eq_of_testBit_eq
  intro i
  rw [Nat.testBit_xor, Nat.testBit_mod_two_pow]
  by_cases hi : i < n
  · have : ¬ n = i := by omega
    split <;> simp [hi, this]
  · by_cases e : i = n
    · subst e
      cases hb : x.testBit i <;> simp
    · have h1 : x.testBit i = false := Nat.testBit_lt_two_pow (Nat.lt_of_lt_of_le h (Nat.pow_le_pow_right (by decide) (by omega)))
      have h2 : ¬ n = i := by omega
      split <;> simp [hi, h1, h2]

/-- Two that go with exclusive ors are one where they are one at the powers of two. -/
theorem add_ext {n : Nat} {f g : Nat → Nat} (hf : AddOn n f) (hg : AddOn n g) (h : ∀ i, i < n → f (2 ^ i) = g (2 ^ i)) : ∀ x, x < 2 ^ n → f x = g x := by
  have key : ∀ m, m ≤ n → ∀ x, x < 2 ^ m → f x = g x := by
    intro m
    induction m with
    | zero =>
      intro _ x hx
      obtain rfl : x = 0 := by simpa using hx
      rw [hf.zero, hg.zero]
    | succ m ih =>
      intro hm x hx
      have hmn : 2 ^ m < 2 ^ n := Nat.pow_lt_pow_right (by decide) (by omega)
      have hr : x % 2 ^ m < 2 ^ m := Nat.mod_lt _ (Nat.two_pow_pos m)
      have hi := ih (by omega) _ hr
      rw [split_top m x hx]
      split
      · rw [hf _ _ (by omega) hmn, hg _ _ (by omega) hmn, hi, h m (by omega)]
      · simpa using hi
  exact key n (Nat.le_refl n)

/-- The product of words: the exclusive or of a, shifted by k, over the bits k of b below n. -/
def cl : Nat → Nat → Nat → Nat
  | 0, _, _ => 0
  | n + 1, a, b => cl n a b ^^^ (if b.testBit n then a <<< n else 0)
def clm (a b : Nat) : Nat := cl 64 a b

/-- The lower, the higher 64 bits. -/
def lo (P : Nat) : Nat := P % 2 ^ 64
def hi (P : Nat) : Nat := P / 2 ^ 64

theorem cl_zero (n a : Nat) : cl n a 0 = 0 := by induction n with
  | zero => rfl
  | succ n ih => simp [cl, ih]

theorem cl_xor_right (n a b c : Nat) : cl n a (b ^^^ c) = cl n a b ^^^ cl n a c := by
  induction n with
  | zero => simp [cl]
  | succ n ih =>
    simp only [cl, ih, Nat.testBit_xor]
    cases b.testBit n <;> cases c.testBit n <;> simp [Nat.xor_assoc, Nat.xor_comm, xor_lc, xor_cancel]

theorem cl_xor_left (n a b c : Nat) : cl n (a ^^^ b) c = cl n a c ^^^ cl n b c := by
  induction n with
  | zero => simp [cl]
  | succ n ih =>
    simp only [cl, ih, Nat.shiftLeft_xor_distrib]
    split <;> simp [Nat.xor_assoc, xor_lc]

theorem cl_pow (n a k : Nat) : cl n a (2 ^ k) = if k < n then a <<< k else 0 := by
  induction n with
  | zero => rfl
  | succ n ih =>
    simp only [cl, ih, Nat.testBit_two_pow]
    by_cases h : k < n
    · have h1 : ¬ k = n := by omega
      have h2 : k < n + 1 := by omega
      simp [h, h1, h2]
    · by_cases e : k = n
      · subst e; simp
      · have h2 : ¬ k < n + 1 := by omega
        simp [h, e, h2]

theorem clm_comm (a b : Nat) (ha : a < 2 ^ 64) (hb : b < 2 ^ 64) : clm a b = clm b a := by
  have h1 : ∀ c, AddOn 64 (fun x => clm x c) := fun c x y _ _ => cl_xor_left 64 x y c
  have h2 : ∀ c, AddOn 64 (fun x => clm c x) := fun c x y _ _ => cl_xor_right 64 c x y
  refine add_ext (f := fun x => clm x b) (g := fun x => clm b x) (h1 b) (h2 b) ?_ a ha
  intro i hi
  refine add_ext (f := fun x => clm (2 ^ i) x) (g := fun x => clm x (2 ^ i)) (h2 _) (h1 _) ?_ b hb
  intro j hj
  simp only [clm, cl_pow, hi, hj, if_true, Nat.shiftLeft_eq]
  rw [Nat.mul_comm]

theorem xor_mod (x y n : Nat) : (x ^^^ y) % 2 ^ n = x % 2 ^ n ^^^ y % 2 ^ n := Nat.xor_mod_two_pow
theorem xor_div (x y n : Nat) : (x ^^^ y) / 2 ^ n = x / 2 ^ n ^^^ y / 2 ^ n := by
  rw [← Nat.shiftRight_eq_div_pow, ← Nat.shiftRight_eq_div_pow, ← Nat.shiftRight_eq_div_pow, Nat.shiftRight_xor_distrib]

/-- The lowest bit struck: b & (b - 1). -/
theorem strike (k m : Nat) : (2 ^ k * (2 * m + 1)) &&& (2 ^ k * (2 * m + 1) - 1) = 2 ^ (k + 1) * m := by
  apply Nat.eq_of_testBit_eq
  intro i
  have e : 2 ^ k * (2 * m + 1) - 1 = 2 ^ (k + 1) * m + (2 ^ k - 1) := by
    have : 0 < 2 ^ k := Nat.two_pow_pos k
    have h : 2 ^ k * (2 * m + 1) = 2 ^ (k + 1) * m + 2 ^ k := by rw [Nat.pow_succ]; simp [Nat.mul_add, Nat.mul_assoc]
    omega
  have e2 : 2 ^ k * (2 * m + 1) = 2 ^ (k + 1) * m + 2 ^ k := by rw [Nat.pow_succ]; simp [Nat.mul_add, Nat.mul_assoc]
  have hp : 2 ^ k < 2 ^ (k + 1) := Nat.pow_lt_pow_right (by decide) (by omega)
  rw [Nat.testBit_and, e, e2, Nat.testBit_two_pow_mul_add _ hp, Nat.testBit_two_pow_mul_add _ (by omega), Nat.testBit_two_pow_mul]
  by_cases h : i < k + 1
  · have h' : ¬ i ≥ k + 1 := by omega
    simp [h, h']
    intro h3
    rw [Nat.testBit_two_pow] at h3
    have : k = i := by simpa using h3
    omega
  · have h' : i ≥ k + 1 := by omega
    simp [h, h']

theorem strike_xor (k m : Nat) : 2 ^ k * (2 * m + 1) = 2 ^ (k + 1) * m ^^^ 2 ^ k := by
  have e2 : 2 ^ k * (2 * m + 1) = 2 ^ (k + 1) * m + 2 ^ k := by rw [Nat.pow_succ]; simp [Nat.mul_add, Nat.mul_assoc]
  have hp : 2 ^ k < 2 ^ (k + 1) := Nat.pow_lt_pow_right (by decide) (by omega)
  apply Nat.eq_of_testBit_eq
  intro i
  rw [e2, Nat.testBit_two_pow_mul_add _ hp, Nat.testBit_xor, Nat.testBit_two_pow_mul, Nat.testBit_two_pow]
  by_cases h : i < k + 1
  · have h' : ¬ i ≥ k + 1 := by omega
    simp [h, h']
  · have h' : i ≥ k + 1 := by omega
    have h2 : ¬ k = i := by omega
    simp [h, h', h2]

end Go.Proofs.YtbahdcebgcgeeaaDoor
