/- The arguments of the statements on the package disk: calls, opened. -/
import Derived.Test.YtgfdpojpcpgddaaDoorTab
import Derived.Test.YtgfdpojpcpgddaaDoorOpen
import Derived.KernelRfl
namespace Go.Proofs.YtgfdpojpcpgddaaDoor.Disk
open Go Go.Proofs.YtgfdpojpcpgddaaDoor Go.Proofs.YtgfdpojpcpgddaaDoor.Eng Go.Proofs Go.ChangeShapes Go.WideShapes Go.RowKit
set_option maxRecDepth 10000
/-- A call of the statements, as data. -/
structure ActV where
  d : Int
  at_ : Int
  n : Int
  b : UInt8
  sh : Bool
  K : Option Addr
  kn : Nat
  kc : Nat
  ks : List Int
def ActV.cells (a : ActV) : List Value := [.int .i64 a.d, .int .i64 a.at_, .int .i64 a.n, bv a.b, .bool a.sh, .slice a.K a.kn a.kc]
structure ActOk (W : World) (a : ActV) : Prop where
  kn : a.kn = a.ks.length
  kc : a.kn ≤ a.kc
  kr : Row W a.K (ivs a.ks)
  nb : -9223372036854775808 ≤ a.n ∧ a.n ≤ 9223372036854775807
  ab : -9223372036854775808 ≤ a.at_ ∧ a.at_ ≤ 9223372036854775807
theorem list6 {cs : List Value} {a b c d e f : Value} (hl : cs.length = 6) (h0 : cs[0]? = some a) (h1 : cs[1]? = some b) (h2 : cs[2]? = some c) (h3 : cs[3]? = some d) (h4 : cs[4]? = some e) (h5 : cs[5]? = some f) : cs = [a, b, c, d, e, f] := by
  match cs, hl with
  | [x0, x1, x2, x3, x4, x5], _ => simp_all
theorem wf64 {z : Int} (hw : (Lit.int .i64 z).wf = true) : -9223372036854775808 ≤ z ∧ z ≤ 9223372036854775807 := by
  simp [Lit.wf, IntKind.min, IntKind.max, IntKind.signed, IntKind.bits] at hw
  omega
theorem wf8 {z : Int} (hw : (Lit.int .u8 z).wf = true) : ∃ b : UInt8, Value.int .u8 z = bv b := by
  simp [Lit.wf, IntKind.min, IntKind.max, IntKind.signed, IntKind.bits] at hw
  refine ⟨UInt8.ofNat z.toNat, ?_⟩
  simp only [bv, UInt8.toNat_ofNat']
  congr 1
  omega
theorem sAct : structOf Tryd.prog 43 = [(3, 0), (3, 1), (3, 2), (5, 3), (4, 4), (23, 5)] := by kernel_rfl
theorem cAct : Tryd.prog.cellsOf 43 = 6 := by kernel_rfl
theorem uActs : Tryd.prog.underlying 37 = some (.slice 43) := by kernel_rfl
theorem uInt : Tryd.prog.underlying 3 = some (.int .i64) := by kernel_rfl
theorem cInt : Tryd.prog.cellsOf 3 = 1 := by kernel_rfl
theorem uByte : Tryd.prog.underlying 5 = some (.int .u8) := by kernel_rfl
theorem cByte : Tryd.prog.cellsOf 5 = 1 := by kernel_rfl
theorem uBool : Tryd.prog.underlying 4 = some .bool := by kernel_rfl
theorem cBool : Tryd.prog.cellsOf 4 = 1 := by kernel_rfl
theorem uInts : Tryd.prog.underlying 23 = some (.slice 3) := by kernel_rfl
theorem cInts : Tryd.prog.cellsOf 23 = 1 := by kernel_rfl
theorem open_acts {H : Type} {enc : TypeId × Value → H} {r : Reach} {b0 : Nat} {v : Value} {d : DataW H} {ps : List MemPlace} {W : World}
    (hval : Value.okWide Tryd.prog W r b0 37 v) (hd : DataW.Trod enc Tryd.prog W 0 (fun _ => true) true 37 v d ps) :
    ∃ A n c acts, v = .slice A n c ∧ n = List.length acts ∧ n ≤ c ∧ c ≤ 9223372036854775807 ∧ Rows2 W A 6 (acts.map ActV.cells) ∧ ∀ a ∈ acts, ActOk W a := by
  obtain ⟨a0, len, cap, rfl⟩ := okWide_slice uActs hval
  obtain ⟨fuel, hf⟩ := hd
  obtain ⟨A, n, c, css, m, hcs, hn, hc, hm, hr, he⟩ := trod_elems uActs hf
  simp only [Value.cells, List.cons.injEq, and_true] at hcs
  cases hcs
  rw [cAct] at hr
  have each : ∀ (i : Nat) cs, css[i]? = some cs → ∃ a : ActV, cs = a.cells ∧ ActOk W a := by
    intro i cs hi
    obtain ⟨y, hy⟩ := he i cs hi
    obtain ⟨hl, n', hf'⟩ := trod_fields sAct (by simp) hy
    rw [cAct] at hl
    obtain ⟨_, y0⟩ := hf' 0 _ _ rfl
    obtain ⟨_, y1⟩ := hf' 1 _ _ rfl
    obtain ⟨_, y2⟩ := hf' 2 _ _ rfl
    obtain ⟨_, y3⟩ := hf' 3 _ _ rfl
    obtain ⟨_, y4⟩ := hf' 4 _ _ rfl
    obtain ⟨_, y5⟩ := hf' 5 _ _ rfl
    obtain ⟨z0, g0, b0⟩ := field_int uInt cInt y0
    obtain ⟨z1, g1, b1⟩ := field_int uInt cInt y1
    obtain ⟨z2, g2, b2⟩ := field_int uInt cInt y2
    obtain ⟨z3, g3, b3⟩ := field_int uByte cByte y3
    obtain ⟨z4, g4⟩ := field_bool uBool cBool y4
    obtain ⟨L, ln, lc, zs, g5, h1, h2, h3, h4, h5⟩ := field_i64s uInts uInt cInt cInts y5
    obtain ⟨b, hb⟩ := wf8 b3
    rw [hb] at g3
    exact ⟨⟨z0, z1, z2, b, z4, L, ln, lc, zs⟩, list6 hl g0 g1 g2 g3 g4 g5, ⟨h1, h2, h4, wf64 b2, wf64 b1⟩⟩
  obtain ⟨acts, hlen, hacts⟩ := each_of each
  have hmap : css = acts.map ActV.cells := by
    apply List.ext_getElem?
    intro i
    by_cases hi : i < css.length
    · obtain ⟨a, ha, hq, _⟩ := hacts i _ (List.getElem?_eq_getElem hi)
      rw [List.getElem?_map, ha, List.getElem?_eq_getElem hi, hq]
      rfl
    · rw [List.getElem?_eq_none (by omega), List.getElem?_eq_none (by simp; omega)]
  refine ⟨_, _, _, acts, rfl, by omega, hc, hm, hmap ▸ hr, ?_⟩
  intro a ha
  obtain ⟨i, hi, rfl⟩ := List.getElem_of_mem ha
  obtain ⟨a', ha', _, hok⟩ := hacts i _ (List.getElem?_eq_getElem (by omega))
  rw [List.getElem?_eq_getElem hi] at ha'
  cases ha'
  exact hok
end Go.Proofs.YtgfdpojpcpgddaaDoor.Disk
