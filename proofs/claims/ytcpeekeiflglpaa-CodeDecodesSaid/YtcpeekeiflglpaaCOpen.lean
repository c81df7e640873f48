/- The arguments of the statements on codes, opened. -/
import Derived.Test.YtcpeekeiflglpaaCWalk5
import Derived.Test.YtcpeekeiflglpaaOpenW
namespace Go.Proofs.Ytcpeekeiflglpaa.Code
open Go Go.Proofs.Ytcpeekeiflglpaa Go.Proofs.Ytcpeekeiflglpaa.Eng Go.Proofs Go.ChangeShapes Go.WideShapes Go.RowKit
set_option maxRecDepth 10000

theorem sCase : structOf Try.prog 93 = [(3, 0), (3, 1)] := by kernel_rfl
theorem cCase : Try.prog.cellsOf 93 = 2 := by kernel_rfl
theorem uCases : Try.prog.underlying 60 = some (.slice 93) := by kernel_rfl
theorem cCases : Try.prog.cellsOf 60 = 1 := by kernel_rfl
theorem sIns : structOf Try.prog 62 = [(3, 0), (3, 1), (3, 2), (3, 3), (60, 4)] := by kernel_rfl
theorem cIns : Try.prog.cellsOf 62 = 5 := by kernel_rfl
theorem uInss : Try.prog.underlying 50 = some (.slice 62) := by kernel_rfl
theorem uIntC : Try.prog.underlying 3 = some (.int .i64) := by kernel_rfl
theorem cIntC : Try.prog.cellsOf 3 = 1 := by kernel_rfl
theorem l2 {cs : List Value} {a b : Value} (hl : cs.length = 2) (h0 : cs[0]? = some a) (h1 : cs[1]? = some b) : cs = [a, b] := by
  match cs, hl with
  | [x0, x1], _ => simp_all
theorem l5 {cs : List Value} {a b c d e : Value} (hl : cs.length = 5) (h0 : cs[0]? = some a) (h1 : cs[1]? = some b) (h2 : cs[2]? = some c) (h3 : cs[3]? = some d) (h4 : cs[4]? = some e) : cs = [a, b, c, d, e] := by
  match cs, hl with
  | [x0, x1, x2, x3, x4], _ => simp_all
theorem map_of_each {α : Type} {f : α → List Value} {css : List (List Value)} {l : List α} (hlen : l.length = css.length) (hl : ∀ (i : Nat) x, css[i]? = some x → ∃ y, l[i]? = some y ∧ x = f y) : css = l.map f := by
  apply List.ext_getElem?
  intro i
  by_cases hi : i < css.length
  · obtain ⟨a, ha, hq⟩ := hl i _ (List.getElem?_eq_getElem hi)
    rw [List.getElem?_map, ha, List.getElem?_eq_getElem hi, hq]
    rfl
  · rw [List.getElem?_eq_none (by omega), List.getElem?_eq_none (by simp; omega)]
theorem case_of {H : Type} {enc : TypeId × Value → H} {W : World} {fuel : Nat} {cs : List Value} {x : DataW H × List MemPlace} (h : DataW.trod enc Try.prog W 0 (fun _ => true) true fuel 93 cs = some x) : ∃ c : Cs, cs = csC c := by
  obtain ⟨hl, n', hf'⟩ := trod_fields sCase (by simp) h
  rw [cCase] at hl
  obtain ⟨_, y0⟩ := hf' 0 _ _ rfl
  obtain ⟨_, y1⟩ := hf' 1 _ _ rfl
  obtain ⟨z0, g0, _⟩ := field_int uIntC cIntC y0
  obtain ⟨z1, g1, _⟩ := field_int uIntC cIntC y1
  exact ⟨⟨z0, z1⟩, l2 hl g0 g1⟩
theorem cases_of {H : Type} {enc : TypeId × Value → H} {W : World} {fuel : Nat} {cs : List Value} {x : DataW H × List MemPlace} (h : DataW.trod enc Try.prog W 0 (fun _ => true) true fuel 60 cs = some x) (hs : Sz Try.prog 60 x.1) : ∃ (v : Value) (l : List Cs), cs = [v] ∧ CsV W v l := by
  obtain ⟨A, n, c, css, m, hcs, hn, hc, hm, hr, hw, he⟩ := trod_elemsW uCases h
  rw [cCase] at hr
  have each : ∀ (i : Nat) cs, css[i]? = some cs → ∃ x : Cs, cs = csC x := by
    intro i cs hi
    obtain ⟨y, hy, _⟩ := he i cs hi
    exact case_of hy
  obtain ⟨l, hlen, hl⟩ := each_of each
  have hmap := map_of_each (f := csC) hlen hl
  have hw' := hw hs
  rw [show Try.prog.bytesOf 93 = 16 by kernel_rfl] at hw'
  have hb : reachBytes ≤ 140737488355328 := by decide
  refine ⟨_, l, hcs, ⟨A, c, by rw [hlen, ← hn], ?_⟩, by omega⟩
  rw [hmap] at hr
  exact row_of_rows2 hr
theorem ins_of {H : Type} {enc : TypeId × Value → H} {W : World} {fuel : Nat} {cs : List Value} {x : DataW H × List MemPlace} (h : DataW.trod enc Try.prog W 0 (fun _ => true) true fuel 62 cs = some x) (hs : Sz Try.prog 62 x.1) : ∃ t : It, cs = insC t.1 t.2 ∧ CsV W t.2 t.1.cs := by
  obtain ⟨hl, n', hf'⟩ := trod_fieldsW sIns (by simp) h
  rw [cIns] at hl
  obtain ⟨_, y0, _⟩ := hf' 0 _ _ rfl
  obtain ⟨_, y1, _⟩ := hf' 1 _ _ rfl
  obtain ⟨_, y2, _⟩ := hf' 2 _ _ rfl
  obtain ⟨_, y3, _⟩ := hf' 3 _ _ rfl
  obtain ⟨_, y4, s4⟩ := hf' 4 _ _ rfl
  obtain ⟨z0, g0, _⟩ := field_int uIntC cIntC y0
  obtain ⟨z1, g1, _⟩ := field_int uIntC cIntC y1
  obtain ⟨z2, g2, _⟩ := field_int uIntC cIntC y2
  obtain ⟨z3, g3, _⟩ := field_int uIntC cIntC y3
  obtain ⟨v, l, g4, hv⟩ := cases_of y4 (s4 hs)
  rw [cCases] at g4
  exact ⟨(⟨z0, z1, z2, z3, l⟩, v), l5 hl g0 g1 g2 g3 (cell_of_cut g4), hv⟩
theorem open_instrs {H : Type} {enc : TypeId × Value → H} {r : Reach} {b0 : Nat} {v : Value} {d : DataW H} {ps : List MemPlace} {W : World}
    (hval : Value.okWide Try.prog W r b0 50 v) (hd : DataW.Trod enc Try.prog W 0 (fun _ => true) true 50 v d ps) (hsz : Sz Try.prog 50 d) :
    ∃ A n c l, v = .slice A n c ∧ n = List.length l ∧ n ≤ c ∧ c ≤ 9223372036854775807 ∧ Ct W A l ∧ n * 56 ≤ 140737488355328 := by
  obtain ⟨a0, len, cap, rfl⟩ := okWide_slice uInss hval
  obtain ⟨fuel, hf⟩ := hd
  obtain ⟨A, n, c, css, m, hcs, hn, hc, hm, hr, hw, he⟩ := trod_elemsW uInss hf
  simp only [Value.cells, List.cons.injEq, and_true] at hcs
  cases hcs
  rw [cIns] at hr
  have each : ∀ (i : Nat) cs, css[i]? = some cs → ∃ t : It, cs = insC t.1 t.2 ∧ CsV W t.2 t.1.cs := by
    intro i cs hi
    obtain ⟨y, hy, hs⟩ := he i cs hi
    exact ins_of hy (hs hsz)
  obtain ⟨l, hlen, hl⟩ := each_of each
  have hmap := map_of_each (f := fun t : It => insC t.1 t.2) hlen fun i x hi => by
    obtain ⟨y, h1, h2, _⟩ := hl i x hi
    exact ⟨y, h1, h2⟩
  have hw' := hw hsz
  rw [show Try.prog.bytesOf 62 = 56 by kernel_rfl] at hw'
  have hb : reachBytes ≤ 140737488355328 := by decide
  refine ⟨_, _, _, l, rfl, by omega, hc, hm, ⟨?_, ?_⟩, by omega⟩
  · rw [hmap] at hr
    exact row_of_rows2 hr
  · intro x hx
    obtain ⟨i, hi, rfl⟩ := List.getElem_of_mem hx
    obtain ⟨x', hx', _, hok⟩ := hl i _ (List.getElem?_eq_getElem (by omega))
    rw [List.getElem?_eq_getElem hi] at hx'
    cases hx'
    exact hok
end Go.Proofs.Ytcpeekeiflglpaa.Code
