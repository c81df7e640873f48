/- The arguments of the statements on frame: records, opened. -/
import Derived.Test.YtpcoleeggeahlaaDoorFWalk2
import Derived.Test.YtpcoleeggeahlaaDoorOpenW
namespace Go.Proofs.YtpcoleeggeahlaaDoor.Frame
open Go Go.Proofs.YtpcoleeggeahlaaDoor Go.Proofs.YtpcoleeggeahlaaDoor.Eng Go.Proofs Go.ChangeShapes Go.WideShapes Go.RowKit
set_option maxRecDepth 10000

theorem wf64 {z : Int} (hw : (Lit.int .i64 z).wf = true) : -9223372036854775808 ≤ z ∧ z ≤ 9223372036854775807 := by
  simp [Lit.wf, IntKind.min, IntKind.max, IntKind.signed, IntKind.bits] at hw
  omega
theorem sRec : structOf Tryd.prog 23 = [(3, 0), (9, 1)] := by kernel_rfl
theorem cRec : Tryd.prog.cellsOf 23 = 2 := by kernel_rfl
theorem uRecs : Tryd.prog.underlying 32 = some (.slice 23) := by kernel_rfl
theorem uInt : Tryd.prog.underlying 3 = some (.int .i64) := by kernel_rfl
theorem cInt : Tryd.prog.cellsOf 3 = 1 := by kernel_rfl
theorem uStr : Tryd.prog.underlying 9 = some .string := by kernel_rfl
theorem cStr : Tryd.prog.cellsOf 9 = 1 := by kernel_rfl
theorem list2 {cs : List Value} {a b : Value} (hl : cs.length = 2) (h0 : cs[0]? = some a) (h1 : cs[1]? = some b) : cs = [a, b] := by
  match cs, hl with
  | [x0, x1], _ => simp_all
structure RecOk (r : Rec) : Prop where
  e : -9223372036854775808 ≤ r.e ∧ r.e ≤ 9223372036854775807
  d : r.d.length ≤ 9223372036854775807
theorem rec_of {H : Type} {enc : TypeId × Value → H} {W : World} {fuel : Nat} {cs : List Value} {x : DataW H × List MemPlace} (h : DataW.trod enc Tryd.prog W 0 (fun _ => true) true fuel 23 cs = some x) : ∃ r : Rec, cs = recC r ∧ RecOk r := by
  obtain ⟨hl, n', hf'⟩ := trod_fields sRec (by simp) h
  rw [cRec] at hl
  obtain ⟨_, y0⟩ := hf' 0 _ _ rfl
  obtain ⟨_, y1⟩ := hf' 1 _ _ rfl
  obtain ⟨z0, g0, b0⟩ := field_int uInt cInt y0
  obtain ⟨s, g1, b1⟩ := field_string uStr cStr y1
  refine ⟨⟨z0, s.data.toList⟩, ?_, wf64 b0, ?_⟩
  · have : (ByteArray.mk s.data.toList.toArray) = s := ByteArray.ext (Array.toArray_toList ..)
    unfold recC
    rw [this]
    exact list2 hl g0 g1
  · have : s.data.toList.length = s.size := Array.length_toList
    show s.data.toList.length ≤ _
    omega
theorem open_rec {H : Type} {enc : TypeId × Value → H} {r : Reach} {b0 : Nat} {v : Value} {d : DataW H} {ps : List MemPlace} {W : World}
    (hval : Value.okWide Tryd.prog W r b0 23 v) (hd : DataW.Trod enc Tryd.prog W 0 (fun _ => true) true 23 v d ps) : ∃ x : Rec, v = recV x ∧ RecOk x := by
  obtain ⟨cs, rfl⟩ := okWide_agg (show isStructB Tryd.prog 23 = true by kernel_rfl) hval
  obtain ⟨fuel, hf⟩ := hd
  obtain ⟨x, hx, hok⟩ := rec_of hf
  refine ⟨x, ?_, hok⟩
  have e1 : (Value.agg cs).cells = cs := rfl
  rw [e1] at hx
  have e2 : cs = #[.int .i64 x.e, .string ⟨x.d.toArray⟩] := by
    apply Array.ext'
    rw [hx]
    rfl
  rw [e2]
  rfl
theorem open_recs {H : Type} {enc : TypeId × Value → H} {r : Reach} {b0 : Nat} {v : Value} {d : DataW H} {ps : List MemPlace} {W : World}
    (hval : Value.okWide Tryd.prog W r b0 32 v) (hd : DataW.Trod enc Tryd.prog W 0 (fun _ => true) true 32 v d ps) (hsz : Sz Tryd.prog 32 d) :
    ∃ A n c l, v = .slice A n c ∧ n = List.length l ∧ n ≤ c ∧ c ≤ 9223372036854775807 ∧ Rows2 W A 2 (l.map recC) ∧ n * 24 ≤ 140737488351232 ∧ ∀ x ∈ l, RecOk x := by
  obtain ⟨a0, len, cap, rfl⟩ := okWide_slice uRecs hval
  obtain ⟨fuel, hf⟩ := hd
  obtain ⟨A, n, c, css, m, hcs, hn, hc, hm, hr, hw, he⟩ := trod_elemsW uRecs hf
  simp only [Value.cells, List.cons.injEq, and_true] at hcs
  cases hcs
  rw [cRec] at hr
  have each : ∀ (i : Nat) cs, css[i]? = some cs → ∃ x : Rec, cs = recC x ∧ RecOk x := by
    intro i cs hi
    obtain ⟨y, hy, _⟩ := he i cs hi
    exact rec_of hy
  obtain ⟨l, hlen, hl⟩ := each_of each
  have hmap : css = l.map recC := by
    apply List.ext_getElem?
    intro i
    by_cases hi : i < css.length
    · obtain ⟨a, ha, hq, _⟩ := hl i _ (List.getElem?_eq_getElem hi)
      rw [List.getElem?_map, ha, List.getElem?_eq_getElem hi, hq]
      rfl
    · rw [List.getElem?_eq_none (by omega), List.getElem?_eq_none (by simp; omega)]
  have hw' := hw hsz
  rw [show Tryd.prog.bytesOf 23 = 24 by kernel_rfl] at hw'
  refine ⟨_, _, _, l, rfl, by omega, hc, hm, hmap ▸ hr, hw', ?_⟩
  intro x hx
  obtain ⟨i, hi, rfl⟩ := List.getElem_of_mem hx
  obtain ⟨x', hx', _, hok⟩ := hl i _ (List.getElem?_eq_getElem (by omega))
  rw [List.getElem?_eq_getElem hi] at hx'
  cases hx'
  exact hok
end Go.Proofs.YtpcoleeggeahlaaDoor.Frame
