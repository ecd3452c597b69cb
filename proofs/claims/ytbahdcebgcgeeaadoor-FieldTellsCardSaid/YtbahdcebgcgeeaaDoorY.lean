/- Arrays of bytes among a row's parameters: opened, shut. -/
import Derived.Test.YtbahdcebgcgeeaaDoorR
import Derived.Test.YtbahdcebgcgeeaaDoorH
import Derived.DataShut
namespace Go.Proofs.YtbahdcebgcgeeaaDoor
open Go.ChangeShapes Go.WideShapes Go.ChangeAt Go.RowKit

theorem cells37 : Tryd.prog.cellsOf 37 = 4 := by kernel_rfl
theorem cells38 : Tryd.prog.cellsOf 38 = 16 := by kernel_rfl
/-- The datum of n bytes. -/
def arrD {H : Type} (n : Nat) (f : Nat → Nat) : DataW H := .agg ((List.range n).map fun i => .lit (.int .u8 (f i : Int)))

theorem wf_byte {m : Nat} (h : m < 256) : (Lit.int .u8 (m : Int)).wf = true := by
  simp [Lit.wf, IntKind.min, IntKind.max, IntKind.signed, IntKind.bits]; omega

section
variable {H : Type} {enc : TypeId × Value → H} {w : World} {base : Nat} {spare : Nat → Bool} {held : Bool}
theorem open_bytes {r : Reach} {b0 : Nat} {t : TypeId} {v : Value} {d : DataW H} {ps : List MemPlace} (n : Nat) (hu : Tryd.prog.underlying t = some (.array n 5)) (hc : Tryd.prog.cellsOf t = n)
    (hval : Value.okWide Tryd.prog w r b0 t v) (hd : DataW.Trod enc Tryd.prog w base spare held t v d ps) :
    ∃ f : Nat → Nat, v = .agg (arr n f) ∧ d = arrD n f ∧ ps = [] ∧ ∀ i, f i < 256 := by
  unfold Value.okWide at hval
  rw [hu] at hval
  obtain ⟨cs, rfl, hsz, _⟩ := hval
  obtain ⟨fuel, hf⟩ := hd
  obtain ⟨xs, m, _, hx, _, hxl, hat⟩ := DataW.trod_array hu hf
  rw [hc] at hsz
  have hcell : ∀ i, i < n → ∃ z : Int, cs[i]? = some (.int .u8 z) ∧ xs[i]? = some (.lit (.int .u8 z), []) ∧ (Lit.int .u8 z).wf = true := fun i hi => by
    have h := hat i hi
    rw [cells5, Nat.mul_one] at h
    have hxi : xs[i]? = some xs[i] := List.getElem?_eq_getElem (by omega)
    rw [hxi] at h
    obtain ⟨z, hz, hx1, hw⟩ := DataW.trod_int Tryd.underlying5 h
    have hci : cs[i]? = some cs[i] := Array.getElem?_eq_getElem (by omega)
    have hd : (cs.toList.drop i).take 1 = [cs[i]] := by
      rw [List.drop_eq_getElem_cons (by simpa using (by omega : i < cs.size))]
      simp
    have hz' : (cs.toList.drop i).take 1 = [.int .u8 z] := hz
    rw [hd] at hz'
    refine ⟨z, ?_, ?_, hw⟩
    · rw [hci]; simpa using hz'
    · rw [hxi, hx1]
  refine ⟨fun i => if i < n then (intOf (cs.getD i undef)).toNat else 0, ?_, ?_, ?_, ?_⟩
  · congr 1
    apply Array.ext_getElem?
    intro i
    by_cases hi : i < n
    · obtain ⟨z, hz, _, hw⟩ := hcell i hi
      have hb := bounds_u8 hw
      rw [arr_at _ _ i hi, hz, if_pos hi, Array.getD_eq_getD_getElem?, hz]
      simp [intOf]; omega
    · rw [Array.getElem?_eq_none (by omega), Array.getElem?_eq_none (by rw [arr_size]; omega)]
  · have h1 := (Prod.mk.injEq _ _ _ _ ▸ hx).1
    rw [h1]
    unfold arrD
    congr 1
    apply List.ext_getElem?
    intro i
    by_cases hi : i < n
    · obtain ⟨z, hz, hxz, hw⟩ := hcell i hi
      have hb := bounds_u8 hw
      rw [List.getElem?_map, hxz, List.getElem?_map, List.getElem?_range hi]
      simp only [Option.map_some, if_pos hi, Array.getD_eq_getD_getElem?, hz, Option.getD_some, intOf]
      congr 3; omega
    · rw [List.getElem?_eq_none (by simp; omega), List.getElem?_eq_none (by simp; omega)]
  · have h2 := (Prod.mk.injEq _ _ _ _ ▸ hx).2
    rw [h2]
    rw [List.flatMap_eq_nil_iff]
    intro x hxm
    obtain ⟨i, hi, rfl⟩ := List.mem_iff_getElem.1 hxm
    obtain ⟨z, _, hxz, _⟩ := hcell i (by omega)
    rw [List.getElem?_eq_getElem hi] at hxz
    rw [Option.some.inj hxz]
  · intro i
    dsimp only
    split
    · rename_i hi
      obtain ⟨z, hz, _, hw⟩ := hcell i hi
      have hb := bounds_u8 hw
      rw [Array.getD_eq_getD_getElem?, hz]
      simp [intOf]; omega
    · omega

theorem shut_bytes {t : TypeId} {f : Nat → Nat} (n : Nat) (hu : Tryd.prog.underlying t = some (.array n 5)) (hc : Tryd.prog.cellsOf t = n) (hf : ∀ i, f i < 256) :
    DataW.Trod enc Tryd.prog w base spare held t (.agg (arr n f)) (arrD n f) [] := by
  refine ⟨2, ?_⟩
  have hl : (Value.agg (arr n f)).cells.toList = (arr n f).toList := rfl
  rw [hl]
  unfold DataW.trod
  rw [hu]
  have hm : (List.range n).mapM (fun i => DataW.trod enc Tryd.prog w base spare held 1 5 (((arr n f).toList.drop (i * Tryd.prog.cellsOf 5)).take (Tryd.prog.cellsOf 5))) = some ((List.range n).map fun i => ((.lit (.int .u8 (f i : Int)), []) : DataW H × List MemPlace)) := by
    refine mapM_some_of_get _ _ (by simp) fun i x hx => ?_
    obtain ⟨hi, rfl⟩ := List.getElem?_eq_some_iff.1 hx
    have hi' : i < n := by simpa using hi
    rw [List.getElem_range, cells5, Nat.mul_one, List.getElem?_map, List.getElem?_range hi']
    have hd : ((arr n f).toList.drop i).take 1 = [.int .u8 (f i : Int)] := by
      have h1 : i < (arr n f).toList.length := by rw [Array.length_toList, arr_size]; exact hi'
      have h2 : (arr n f).toList[i] = .int .u8 (f i : Int) := by
        have := arr_at n f i hi'
        rw [Array.getElem?_eq_getElem (by rw [arr_size]; exact hi')] at this
        simpa using this
      rw [List.drop_eq_getElem_cons h1, h2]; rfl
    rw [hd]
    simp [DataW.trod, Tryd.underlying5, wf_byte (hf i)]
  dsimp only
  rw [if_pos (by rw [Array.length_toList, arr_size, hc]), hm]
  simp only [Option.map_some, arrD, List.map_map, Option.some.injEq, Prod.mk.injEq]
  refine ⟨rfl, ?_⟩
  rw [List.flatMap_eq_nil_iff]
  intro x hx
  obtain ⟨i, _, rfl⟩ := List.mem_map.1 hx
  rfl
end
end Go.Proofs.YtbahdcebgcgeeaaDoor
