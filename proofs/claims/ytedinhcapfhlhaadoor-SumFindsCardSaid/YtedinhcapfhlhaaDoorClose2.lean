/- An argument that is an array of four bytes, opened. -/
import Derived.Test.YtedinhcapfhlhaaDoorClose
import Derived.Lib.SmallJoins
namespace Go.Proofs.YtedinhcapfhlhaaDoor.Eng
open Go Go.ChangeShapes Go.WideShapes Go.RowKit
section
variable {H : Type} {enc : TypeId × Value → H} {P : Program}
theorem u8_cell {e : TypeId} {v : Value} {W : World} {n : Nat} {x : DataW H × List MemPlace} (he : P.underlying e = some (.int .u8)) (h : DataW.trod enc P W 0 (fun _ => true) true n e [v] = some x) : ∃ b : UInt8, v = bv b := by
  obtain ⟨z, hz, _, hw⟩ := DataW.trod_int he h
  simp only [List.cons.injEq, and_true] at hz
  subst hz
  simp [Lit.wf, IntKind.min, IntKind.max, IntKind.signed, IntKind.bits] at hw
  refine ⟨UInt8.ofNat z.toNat, ?_⟩
  simp only [bv, UInt8.toNat_ofNat']
  congr 1
  omega
theorem open_u8x4 {r : Reach} {b0 : Nat} {t e : TypeId} {v : Value} {d : DataW H} {ps : List MemPlace} {W : World} (ht : P.underlying t = some (.array 4 e)) (he : P.underlying e = some (.int .u8)) (hct : P.cellsOf t = 4) (hc : P.cellsOf e = 1)
    (hval : Value.okWide P W r b0 t v) (hd : DataW.Trod enc P W 0 (fun _ => true) true t v d ps) :
    ∃ a b c d, v = .agg #[bv a, bv b, bv c, bv d] := by
  unfold Value.okWide at hval
  rw [ht] at hval
  obtain ⟨cs, rfl, hsz, _⟩ := hval
  rw [hct] at hsz
  obtain ⟨fuel, hf⟩ := hd
  obtain ⟨xs, m, _, _, _, hxl, hel⟩ := DataW.trod_array ht hf
  obtain ⟨l⟩ := cs
  match l, hsz with
  | [v0, v1, v2, v3], _ =>
    have g : ∀ i, i < 4 → ∃ y, xs[i]? = some y := fun i hi => ⟨_, List.getElem?_eq_getElem (by omega)⟩
    have e0 := hel 0 (by decide)
    have e1 := hel 1 (by decide)
    have e2 := hel 2 (by decide)
    have e3 := hel 3 (by decide)
    obtain ⟨y0, h0⟩ := g 0 (by decide)
    obtain ⟨y1, h1⟩ := g 1 (by decide)
    obtain ⟨y2, h2⟩ := g 2 (by decide)
    obtain ⟨y3, h3⟩ := g 3 (by decide)
    rw [hc, h0] at e0
    rw [hc, h1] at e1
    rw [hc, h2] at e2
    rw [hc, h3] at e3
    obtain ⟨a, rfl⟩ := u8_cell he e0
    obtain ⟨b, rfl⟩ := u8_cell he e1
    obtain ⟨c, rfl⟩ := u8_cell he e2
    obtain ⟨d, rfl⟩ := u8_cell he e3
    exact ⟨a, b, c, d, rfl⟩
end
end Go.Proofs.YtedinhcapfhlhaaDoor.Eng
