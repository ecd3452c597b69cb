/- The contracts of the document's boxes: a byte turned, a byte's box, all boxes, and back. -/
import Derived.Test.YtbahdcebgcgeeaaDoorUA
import Derived.Test.YtbahdcebgcgeeaaDoorF
import Derived.Deep.RegionWith
namespace Go.Proofs.YtbahdcebgcgeeaaDoor
open Go.RowKit

/-- A byte turned left by n. -/
def tn (n b : Nat) : Nat := (b * 2 ^ n % 256) ||| (b / 2 ^ (8 - n))
theorem tn_lt : ∀ n, n < 5 → ∀ b, b < 256 → tn n b < 256 := by decide +kernel
/-- What the document's box is, by its own words. -/
def ibx (b : Nat) : Nat := b ^^^ tn 1 b ^^^ tn 2 b ^^^ tn 3 b ^^^ tn 4 b ^^^ 99
theorem ibx_zero : ibx 0 = bx 0 := by decide +kernel
theorem ibx_inv : ∀ a, a < 256 → a ≠ 0 → ibx (ginv a) = bx a := by decide +kernel

theorem turn1_any (b : Nat) (hb : b < 256) (w : World) :
    Calls Tryd.prog 33 #[.int .u8 (b : Int), .int .u64 1] w fun e w' => e = .returned (.int .u8 (tn 1 b : Nat)) ∧ w = w' := by
  have h : bits .or .u8 ((b : Int) * 2 % 256) ((b : Int) / 128) = ((tn 1 b : Nat) : Int) :=
    u8_or_nat (b * 2 % 256) (b / 128) (Nat.mod_lt _ (by decide)) (by omega)
  have H := Lib.hid h
  clear h
  go_enter Tryd.func33, Tryd.ntmps33
  go_wp2
  go_ret
  exact ⟨ret_int H.out, rfl⟩
theorem turn2_any (b : Nat) (hb : b < 256) (w : World) :
    Calls Tryd.prog 33 #[.int .u8 (b : Int), .int .u64 2] w fun e w' => e = .returned (.int .u8 (tn 2 b : Nat)) ∧ w = w' := by
  have h : bits .or .u8 ((b : Int) * 4 % 256) ((b : Int) / 64) = ((tn 2 b : Nat) : Int) :=
    u8_or_nat (b * 4 % 256) (b / 64) (Nat.mod_lt _ (by decide)) (by omega)
  have H := Lib.hid h
  clear h
  go_enter Tryd.func33, Tryd.ntmps33
  go_wp2
  go_ret
  exact ⟨ret_int H.out, rfl⟩
theorem turn3_any (b : Nat) (hb : b < 256) (w : World) :
    Calls Tryd.prog 33 #[.int .u8 (b : Int), .int .u64 3] w fun e w' => e = .returned (.int .u8 (tn 3 b : Nat)) ∧ w = w' := by
  have h : bits .or .u8 ((b : Int) * 8 % 256) ((b : Int) / 32) = ((tn 3 b : Nat) : Int) :=
    u8_or_nat (b * 8 % 256) (b / 32) (Nat.mod_lt _ (by decide)) (by omega)
  have H := Lib.hid h
  clear h
  go_enter Tryd.func33, Tryd.ntmps33
  go_wp2
  go_ret
  exact ⟨ret_int H.out, rfl⟩
theorem turn4_any (b : Nat) (hb : b < 256) (w : World) :
    Calls Tryd.prog 33 #[.int .u8 (b : Int), .int .u64 4] w fun e w' => e = .returned (.int .u8 (tn 4 b : Nat)) ∧ w = w' := by
  have h : bits .or .u8 ((b : Int) * 16 % 256) ((b : Int) / 16) = ((tn 4 b : Nat) : Int) :=
    u8_or_nat (b * 16 % 256) (b / 16) (Nat.mod_lt _ (by decide)) (by omega)
  have H := Lib.hid h
  clear h
  go_enter Tryd.func33, Tryd.ntmps33
  go_wp2
  go_ret
  exact ⟨ret_int H.out, rfl⟩

theorem box_walk (a b t1 t2 t3 t4 : Nat) (e : Int) (hb : b < 256) (l1 : t1 < 256) (l2 : t2 < 256) (l3 : t3 < 256) (l4 : t4 < 256)
    (hi : ∀ w, Calls Tryd.prog 15 #[.int .u8 (a : Int)] w fun x w' => x = .returned (.tuple #[.int .u8 (b : Int), .int .i64 e]) ∧ w = w')
    (h1 : ∀ w, Calls Tryd.prog 33 #[.int .u8 (b : Int), .int .u64 1] w fun x w' => x = .returned (.int .u8 (t1 : Int)) ∧ w = w')
    (h2 : ∀ w, Calls Tryd.prog 33 #[.int .u8 (b : Int), .int .u64 2] w fun x w' => x = .returned (.int .u8 (t2 : Int)) ∧ w = w')
    (h3 : ∀ w, Calls Tryd.prog 33 #[.int .u8 (b : Int), .int .u64 3] w fun x w' => x = .returned (.int .u8 (t3 : Int)) ∧ w = w')
    (h4 : ∀ w, Calls Tryd.prog 33 #[.int .u8 (b : Int), .int .u64 4] w fun x w' => x = .returned (.int .u8 (t4 : Int)) ∧ w = w') (w : World) :
    Calls Tryd.prog 28 #[.int .u8 (a : Int)] w fun e w' => e = .returned (.int .u8 (b ^^^ t1 ^^^ t2 ^^^ t3 ^^^ t4 ^^^ 99 : Nat)) ∧ w = w' := by
  have m1 := xor_lt hb l1
  have m2 := xor_lt m1 l2
  have m3 := xor_lt m2 l3
  have m4 := xor_lt m3 l4
  have x1 := u8_xor_nat b t1 hb l1
  have x2 := u8_xor_nat (b ^^^ t1) t2 m1 l2
  have x3 := u8_xor_nat (b ^^^ t1 ^^^ t2) t3 m2 l3
  have x4 := u8_xor_nat (b ^^^ t1 ^^^ t2 ^^^ t3) t4 m3 l4
  have x5 : bits .xor .u8 ((b ^^^ t1 ^^^ t2 ^^^ t3 ^^^ t4 : Nat) : Int) 99 = ((b ^^^ t1 ^^^ t2 ^^^ t3 ^^^ t4 ^^^ 99 : Nat) : Int) := u8_xor_nat (b ^^^ t1 ^^^ t2 ^^^ t3 ^^^ t4) 99 m4 (by decide)
  have HI := Lib.hid hi
  have H1 := Lib.hid h1
  have H2 := Lib.hid h2
  have H3 := Lib.hid h3
  have H4 := Lib.hid h4
  clear hi l1 l2 l3 l4 m1 m2 m3 m4 h1 h2 h3 h4
  go_enter Tryd.func28, Tryd.ntmps28
  go_wp2_with (first
    | (go_at_call 15; refine (HI.out _).mono ?_; rintro e w' ⟨rfl, rfl⟩)
    | (go_at_call_of 33 (Value.int IntKind.u64 1); refine (H1.out _).mono ?_; rintro e w' ⟨rfl, rfl⟩)
    | (go_at_call_of 33 (Value.int IntKind.u64 2); refine (H2.out _).mono ?_; rintro e w' ⟨rfl, rfl⟩)
    | (go_at_call_of 33 (Value.int IntKind.u64 3); refine (H3.out _).mono ?_; rintro e w' ⟨rfl, rfl⟩)
    | (go_at_call_of 33 (Value.int IntKind.u64 4); refine (H4.out _).mono ?_; rintro e w' ⟨rfl, rfl⟩))
  go_ret
  exact ⟨rfl, rfl⟩

theorem refbox_any (a : Nat) (ha : a < 256) (w : World) :
    Calls Tryd.prog 28 #[.int .u8 (a : Int)] w fun e w' => e = .returned (.int .u8 (bx a : Nat)) ∧ w = w' := by
  by_cases h0 : a = 0
  · subst h0
    have h := box_walk 0 0 _ _ _ _ 20 (by decide) (tn_lt 1 (by decide) 0 (by decide)) (tn_lt 2 (by decide) 0 (by decide)) (tn_lt 3 (by decide) 0 (by decide)) (tn_lt 4 (by decide) 0 (by decide)) (fun w => refInv_zero w) (turn1_any 0 (by decide)) (turn2_any 0 (by decide)) (turn3_any 0 (by decide)) (turn4_any 0 (by decide)) w
    rw [← ibx_zero]
    exact h
  · have hl := (ginv_facts a ha).1
    have hx := ibx_inv a ha h0
    have hi := fun w => refInv_any a ha (by omega) w
    generalize ginv a = g at hl hx hi
    have h := box_walk a g _ _ _ _ 0 hl (tn_lt 1 (by decide) g hl) (tn_lt 2 (by decide) g hl) (tn_lt 3 (by decide) g hl) (tn_lt 4 (by decide) g hl) hi (turn1_any g hl) (turn2_any g hl) (turn3_any g hl) (turn4_any g hl) w
    rw [← hx]
    exact h

end Go.Proofs.YtbahdcebgcgeeaaDoor
