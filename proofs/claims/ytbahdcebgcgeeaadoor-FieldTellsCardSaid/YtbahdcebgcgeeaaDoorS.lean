/- Plain laws of rounds: mixed four times a column is as it was; a key is put to a block alone. -/
import Derived.Test.YtbahdcebgcgeeaaDoorP
import Derived.Test.YtbahdcebgcgeeaaDoorG
namespace Go.Proofs.YtbahdcebgcgeeaaDoor
open Go.RowKit

theorem mix_twice (a b c d : Nat) (ha : a < 256) (hb : b < 256) (hc : c < 256) (hd : d < 256) (s : Nat) (hs : s = a ^^^ b ^^^ c ^^^ d) (t r0 r1 r2 r3 : Nat)
    (h0 : r0 = a ^^^ s ^^^ dbl (a ^^^ b)) (h1 : r1 = b ^^^ s ^^^ dbl (b ^^^ c)) (h2 : r2 = c ^^^ s ^^^ dbl (c ^^^ d)) (h3 : r3 = d ^^^ s ^^^ dbl (d ^^^ a)) (ht : t = r0 ^^^ r1 ^^^ r2 ^^^ r3) :
    r0 ^^^ t ^^^ dbl (r0 ^^^ r1) = a ^^^ dbl (dbl (a ^^^ c)) ∧ r1 ^^^ t ^^^ dbl (r1 ^^^ r2) = b ^^^ dbl (dbl (b ^^^ d)) ∧ r2 ^^^ t ^^^ dbl (r2 ^^^ r3) = c ^^^ dbl (dbl (c ^^^ a)) ∧ r3 ^^^ t ^^^ dbl (r3 ^^^ r0) = d ^^^ dbl (dbl (d ^^^ b)) := by
  have e1 := dbl_xor a ha b hb
  have e2 := dbl_xor b hb c hc
  have e3 := dbl_xor c hc d hd
  have e4 := dbl_xor d hd a ha
  have e5 := dbl_xor a ha c hc
  have e6 := dbl_xor b hb d hd
  have e7 := dbl_xor c hc a ha
  have e8 := dbl_xor d hd b hb
  rw [e1] at h0; rw [e2] at h1; rw [e3] at h2; rw [e4] at h3
  rw [e5, e6, e7, e8]
  have la := dbl_lt a
  have lb := dbl_lt b
  have lc := dbl_lt c
  have ld := dbl_lt d
  rw [dbl_xor _ la _ lc, dbl_xor _ lb _ ld, dbl_xor _ lc _ la, dbl_xor _ ld _ lb]
  have p1 : r0 ^^^ r1 = (a ^^^ b) ^^^ (dbl a ^^^ dbl c) := by subst h0 h1; simp [Nat.xor_assoc, xor_lc, xor_cancel]
  have p2 : r1 ^^^ r2 = (b ^^^ c) ^^^ (dbl b ^^^ dbl d) := by subst h1 h2; simp [Nat.xor_assoc, xor_lc, xor_cancel]
  have p3 : r2 ^^^ r3 = (c ^^^ d) ^^^ (dbl c ^^^ dbl a) := by subst h2 h3; simp [Nat.xor_assoc, Nat.xor_comm, xor_lc, xor_cancel]
  have p4 : r3 ^^^ r0 = (d ^^^ a) ^^^ (dbl d ^^^ dbl b) := by subst h3 h0; simp [Nat.xor_assoc, Nat.xor_comm, xor_lc, xor_cancel]
  have pt : t = s := by subst ht h0 h1 h2 h3 hs; simp [Nat.xor_assoc, Nat.xor_comm, xor_lc, xor_cancel]
  have q1 : dbl (r0 ^^^ r1) = (dbl a ^^^ dbl b) ^^^ (dbl (dbl a) ^^^ dbl (dbl c)) := by rw [p1, dbl_xor _ (xor_lt ha hb) _ (xor_lt la lc), e1, dbl_xor _ la _ lc]
  have q2 : dbl (r1 ^^^ r2) = (dbl b ^^^ dbl c) ^^^ (dbl (dbl b) ^^^ dbl (dbl d)) := by rw [p2, dbl_xor _ (xor_lt hb hc) _ (xor_lt lb ld), e2, dbl_xor _ lb _ ld]
  have q3 : dbl (r2 ^^^ r3) = (dbl c ^^^ dbl d) ^^^ (dbl (dbl c) ^^^ dbl (dbl a)) := by rw [p3, dbl_xor _ (xor_lt hc hd) _ (xor_lt lc la), e3, dbl_xor _ lc _ la]
  have q4 : dbl (r3 ^^^ r0) = (dbl d ^^^ dbl a) ^^^ (dbl (dbl d) ^^^ dbl (dbl b)) := by rw [p4, dbl_xor _ (xor_lt hd ha) _ (xor_lt ld lb), e4, dbl_xor _ ld _ lb]
  rw [q1, q2, q3, q4, pt, h0, h1, h2, h3]
  refine ⟨?_, ?_, ?_, ?_⟩ <;> simp [Nat.xor_assoc, Nat.xor_comm, xor_lc, xor_cancel]

theorem mixF_two (c : Nat → Nat) (hc : ∀ i, c i < 256) (i : Nat) (hi : i < 4) : mixF (mixF c) i = c i ^^^ dbl (dbl (c i ^^^ c ((i + 2) % 4))) := by
  have h := mix_twice (c 0) (c 1) (c 2) (c 3) (hc 0) (hc 1) (hc 2) (hc 3) _ rfl _ (mixF c 0) (mixF c 1) (mixF c 2) (mixF c 3) rfl rfl rfl rfl rfl
  rcases (by omega : i = 0 ∨ i = 1 ∨ i = 2 ∨ i = 3) with rfl | rfl | rfl | rfl
  · exact h.1
  · exact h.2.1
  · exact h.2.2.1
  · exact h.2.2.2
theorem mixF_four (c : Nat → Nat) (hc : ∀ i, c i < 256) (i : Nat) (hi : i < 4) : mixF (mixF (mixF (mixF c))) i = c i := by
  have h2 : ∀ i, mixF (mixF c) i < 256 := fun i => mixF_lt _ (mixF_lt c hc) i
  rw [mixF_two _ h2 i hi, mixF_two c hc i hi, mixF_two c hc ((i + 2) % 4) (Nat.mod_lt _ (by decide))]
  have e : ((i + 2) % 4 + 2) % 4 = i := by omega
  rw [e, Nat.xor_comm (c ((i + 2) % 4)) (c i)]
  have e2 : c i ^^^ dbl (dbl (c i ^^^ c ((i + 2) % 4))) ^^^ (c ((i + 2) % 4) ^^^ dbl (dbl (c i ^^^ c ((i + 2) % 4)))) = c i ^^^ c ((i + 2) % 4) := by
    simp [Nat.xor_comm, xor_lc]
  rw [e2, Nat.xor_assoc, Nat.xor_self, Nat.xor_zero]

/-- What FieldRounds's loops ask of its three blocks. -/
theorem rnd_two (mx : (Nat → Nat) → Nat → Nat) (f ky ot : Nat → Nat) (i : Nat) : rnd mx f ky i ^^^ rnd mx f ot i = ky i ^^^ ot i := by
  unfold rnd; simp [Nat.xor_comm, xor_lc]
theorem rnd_same (f ky : Nat → Nat) (i : Nat) : rnd sameF f ky i ^^^ ky i = shf f i := by
  unfold rnd sameF col
  rw [Nat.xor_assoc, Nat.xor_self, Nat.xor_zero]
  congr 1; omega
theorem rnd_col (mx : (Nat → Nat) → Nat → Nat) (f ky : Nat → Nat) (c r i : Nat) (hr : r < 4) (hi : 4 * c + r = i) : rnd mx f ky i = mx (col (shf f) c) r ^^^ ky i := by
  unfold rnd
  rw [show i / 4 = c by omega, show i % 4 = r by omega]
theorem rnd_lt (mx : (Nat → Nat) → Nat → Nat) (f ky : Nat → Nat) (hm : ∀ c, (∀ i, c i < 256) → ∀ i, mx c i < 256) (hf : ∀ i, f i < 256) (hky : ∀ i, ky i < 256) (i : Nat) : rnd mx f ky i < 256 :=
  xor_lt (hm _ (fun _ => shf_lt f hf _) _) (hky i)

end Go.Proofs.YtbahdcebgcgeeaaDoor
