/- Plain mathematics: the laws of the field of 256 elements. No program in sight. -/
import Derived.Test.YtbahdcebgcgeeaaDoorM
import Derived.Test.YtbahdcebgcgeeaaDoorK
namespace Go.Proofs.YtbahdcebgcgeeaaDoor

theorem dbl_xor : ∀ x, x < 256 → ∀ y, y < 256 → dbl (x ^^^ y) = dbl x ^^^ dbl y := by decide +kernel

theorem gmulF_xor (n : Nat) : ∀ (a a' b o o' : Nat), a < 256 → a' < 256 → gmulF n (a ^^^ a') b (o ^^^ o') = gmulF n a b o ^^^ gmulF n a' b o' := by
  induction n with
  | zero => intros; rfl
  | succ n ih =>
    intro a a' b o o' ha ha'
    by_cases hb : b = 0
    · subst hb; simp [gmulF_zero]
    · rw [gmulF_step _ _ _ _ hb, gmulF_step _ _ _ _ hb, gmulF_step _ _ _ _ hb, dbl_xor a ha a' ha']
      have e : (if b % 2 = 1 then o ^^^ o' ^^^ (a ^^^ a') else o ^^^ o') = (if b % 2 = 1 then o ^^^ a else o) ^^^ (if b % 2 = 1 then o' ^^^ a' else o') := by
        split
        · simp only [Nat.xor_assoc, xor_lc]
        · rfl
      rw [e]
      exact ih _ _ _ _ _ (dbl_lt _) (dbl_lt _)

theorem gmul_xor_left (a a' b : Nat) (ha : a < 256) (ha' : a' < 256) : gmul (a ^^^ a') b = gmul a b ^^^ gmul a' b := by
  have := gmulF_xor 8 a a' b 0 0 ha ha'
  simpa [gmul] using this

theorem gmulF_out (n : Nat) : ∀ (a b o : Nat), gmulF n a b o = o ^^^ gmulF n a b 0 := by
  induction n with
  | zero => intros; simp [gmulF]
  | succ n ih =>
    intro a b o
    by_cases hb : b = 0
    · subst hb; simp [gmulF_zero]
    · rw [gmulF_step _ _ _ _ hb, gmulF_step _ _ _ _ hb, ih _ _ (if b % 2 = 1 then o ^^^ a else o), ih _ _ (if b % 2 = 1 then 0 ^^^ a else 0)]
      split <;> simp [Nat.xor_assoc]

/-- The product without the early end. -/
theorem gmulF_all (n a b : Nat) : gmulF (n + 1) a b 0 = (if b % 2 = 1 then a else 0) ^^^ gmulF n (dbl a) (b / 2) 0 := by
  by_cases hb : b = 0
  · subst hb; simp [gmulF_zero]
  · rw [gmulF_step _ _ _ _ hb, gmulF_out]
    simp

theorem gmulF_xor_right (n : Nat) : ∀ (a b b' : Nat), gmulF n a (b ^^^ b') 0 = gmulF n a b 0 ^^^ gmulF n a b' 0 := by
  induction n with
  | zero => intros; simp [gmulF]
  | succ n ih =>
    intro a b b'
    rw [gmulF_all, gmulF_all, gmulF_all]
    have e : (b ^^^ b') / 2 = b / 2 ^^^ b' / 2 := by simpa using xor_div b b' 1
    have e2 : (b ^^^ b') % 2 = b % 2 ^^^ b' % 2 := by simpa using xor_mod b b' 1
    rw [e, e2, ih]
    have h1 : b % 2 = 0 ∨ b % 2 = 1 := by omega
    have h2 : b' % 2 = 0 ∨ b' % 2 = 1 := by omega
    rcases h1 with h1 | h1 <;> rcases h2 with h2 | h2 <;> simp [h1, h2, Nat.xor_assoc, Nat.xor_comm, xor_lc, xor_cancel]

theorem gmul_xor_right (a b b' : Nat) : gmul a (b ^^^ b') = gmul a b ^^^ gmul a b' := gmulF_xor_right 8 a b b'

theorem gmul_add_left (b : Nat) : AddOn 8 (fun a => gmul a b) := fun x y hx hy => gmul_xor_left x y b hx hy
theorem gmul_add_right (a : Nat) : AddOn 8 (fun b => gmul a b) := fun x y _ _ => gmul_xor_right a x y

theorem gmul_comm (a b : Nat) (ha : a < 256) (hb : b < 256) : gmul a b = gmul b a := by
  refine add_ext (f := fun x => gmul x b) (g := fun x => gmul b x) (gmul_add_left b) (gmul_add_right b) ?_ a ha
  intro i hi
  refine add_ext (f := fun x => gmul (2 ^ i) x) (g := fun x => gmul x (2 ^ i)) (gmul_add_right _) (gmul_add_left _) ?_ b hb
  revert i hi
  decide +kernel

theorem gmul_assoc (a b c : Nat) (ha : a < 256) (hb : b < 256) (hc : c < 256) : gmul (gmul a b) c = gmul a (gmul b c) := by
  have hL : ∀ b c, AddOn 8 (fun x => gmul (gmul x b) c) := fun b c x y hx hy => by
    show gmul (gmul (x ^^^ y) b) c = _
    rw [gmul_xor_left x y b hx hy, gmul_xor_left _ _ c (gmul_lt _ _ hx) (gmul_lt _ _ hy)]
  have hM : ∀ a c, a < 256 → AddOn 8 (fun x => gmul (gmul a x) c) := fun a c ha x y _ _ => by
    show gmul (gmul a (x ^^^ y)) c = _
    rw [gmul_xor_right a x y, gmul_xor_left _ _ c (gmul_lt _ _ ha) (gmul_lt _ _ ha)]
  have hR : ∀ a c, AddOn 8 (fun x => gmul a (gmul x c)) := fun a c x y hx hy => by
    show gmul a (gmul (x ^^^ y) c) = _
    rw [gmul_xor_left x y c hx hy, gmul_xor_right]
  have hT : ∀ a b, AddOn 8 (fun x => gmul a (gmul b x)) := fun a b x y _ _ => by
    show gmul a (gmul b (x ^^^ y)) = _
    rw [gmul_xor_right, gmul_xor_right]
  refine add_ext (f := fun x => gmul (gmul x b) c) (g := fun x => gmul x (gmul b c)) (hL b c) (gmul_add_left _) ?_ a ha
  intro i hi
  have h2 : 2 ^ i < 2 ^ 8 := Nat.pow_lt_pow_right (by decide) hi
  refine add_ext (f := fun x => gmul (gmul (2 ^ i) x) c) (g := fun x => gmul (2 ^ i) (gmul x c)) (hM _ c h2) (hR _ c) ?_ b hb
  intro j hj
  refine add_ext (f := fun x => gmul (gmul (2 ^ i) (2 ^ j)) x) (g := fun x => gmul (2 ^ i) (gmul (2 ^ j) x)) (gmul_add_right _) (hT _ _) ?_ c hc
  revert j hj
  revert i hi
  intro i hi _
  revert i hi
  decide +kernel

theorem gmul_one : ∀ a, a < 256 → gmul a 1 = a := by decide +kernel
theorem gmul_zero (a : Nat) : gmul a 0 = 0 := gmulF_zero 8 a 0
theorem zero_gmul (b : Nat) : gmul 0 b = 0 := (gmul_add_left b).zero
theorem gmul_inv : ∀ a, a < 256 → a ≠ 0 → gmul a (ginv a) = 1 := by decide +kernel
theorem ginv_facts : ∀ a, a < 256 → ginv a < 256 ∧ (a ≠ 0 → ginv a ≠ 0 ∧ ginv (ginv a) = a) := by decide +kernel

theorem gmul_ne_zero (a b : Nat) (ha : a < 256) (hb : b < 256) (h0 : a ≠ 0) (h1 : b ≠ 0) : gmul a b ≠ 0 := by
  intro h
  have hi := (ginv_facts a ha).1
  have e1 : gmul (gmul (ginv a) a) b = 0 := by rw [gmul_assoc _ _ _ hi ha hb, h, gmul_zero]
  rw [gmul_comm _ _ hi ha, gmul_inv a ha h0, gmul_comm 1 b (by decide) hb, gmul_one b hb] at e1
  exact h1 e1

/-- What is multiplied with a to be 1 is the inverse. -/
theorem inv_unique (a x : Nat) (ha : a < 256) (hx : x < 256) (h0 : a ≠ 0) (h : gmul a x = 1) : x = ginv a := by
  have hi := (ginv_facts a ha).1
  have e : gmul (gmul (ginv a) a) x = ginv a := by rw [gmul_assoc _ _ _ hi ha hx, h, gmul_one _ hi]
  rw [gmul_comm _ _ hi ha, gmul_inv a ha h0, gmul_comm 1 x (by decide) hx, gmul_one x hx] at e
  exact e

theorem ginv_mul (a b : Nat) (ha : a < 256) (hb : b < 256) (h0 : a ≠ 0) (h1 : b ≠ 0) : ginv (gmul a b) = gmul (ginv a) (ginv b) := by
  have hi := (ginv_facts a ha).1
  have hj := (ginv_facts b hb).1
  refine (inv_unique _ _ (gmul_lt a b ha) (gmul_lt _ _ hi) (gmul_ne_zero a b ha hb h0 h1) ?_).symm
  rw [gmul_comm a b ha hb, gmul_assoc b a _ hb ha (gmul_lt _ _ hi), ← gmul_assoc a _ _ ha hi hj, gmul_inv a ha h0, gmul_comm 1 _ (by decide) hj, gmul_one _ hj, gmul_inv b hb h1]

theorem ginv_inj (a b : Nat) (ha : a < 256) (hb : b < 256) (h0 : a ≠ 0) (h1 : b ≠ 0) : ginv a = ginv b ↔ a = b := by
  constructor
  · intro h
    rw [← ((ginv_facts a ha).2 h0).2, h, ((ginv_facts b hb).2 h1).2]
  · intro h; rw [h]

end Go.Proofs.YtbahdcebgcgeeaaDoor
