/- How long a slice of numbers may be that came in: what a machine can hold. -/
import Derived.Test.YteanhakkceancaaClose
import Derived.SizedLaws
namespace Go.Proofs.Yteanhakkceancaa.Eng
open Go Go.ChangeShapes Go.WideShapes Go.RowKit
section
variable {H : Type} {enc : TypeId × Value → H} {P : Program}
theorem i64s_size {r : Reach} {b0 : Nat} {t e : TypeId} {v : Value} {d : DataW H} {ps : List MemPlace} {W : World} {k : IntKind} {sz : Nat} (ht : P.underlying t = some (.slice e)) (he : P.underlying e = some (.int k)) (hc : P.cellsOf e = 1)
    (hval : Value.okWide P W r b0 t v) (hd : DataW.Trod enc P W 0 (fun _ => true) true t v d ps) (hw : ∀ x s, d = .slice x s → (x.length + s.length) * sz ≤ 140737488351232) :
    ∀ A n c, v = .slice A n c → sz * n ≤ 140737488351232 := by
  rintro A n c rfl
  obtain ⟨fuel, hf⟩ := hd
  rcases open_ints ht he hc hf with ⟨hcs, hx⟩ | ⟨a, len, cap, zs, hcs, _, hl, hm, hz, hx, hcell, hwz⟩
  · simp only [Value.cells, List.cons.injEq, and_true] at hcs
    cases hcs
    simp
  · simp only [Value.cells, List.cons.injEq, and_true] at hcs
    cases hcs
    simp only [if_true] at hz
    simp only [Prod.mk.injEq] at hx
    have := hw _ _ hx.1
    simp only [lits, List.length_map, List.length_take, List.length_drop] at this
    have h2 : n * sz ≤ (min n zs.length + (zs.length - n)) * sz := Nat.mul_le_mul_right _ (by omega)
    rw [Nat.mul_comm]
    omega
end
end Go.Proofs.Yteanhakkceancaa.Eng
