/- The arguments of the statements on pools, opened. -/
import Derived.Test.YtbmlfbcanjobfaaPMath
import Derived.Test.YtbmlfbcanjobfaaOpenW
import Derived.Test.YtbmlfbcanjobfaaTab
namespace Go.Proofs.Ytbmlfbcanjobfaa.Pool
open Go Go.Proofs.Ytbmlfbcanjobfaa Go.Proofs.Ytbmlfbcanjobfaa.Eng Go.Proofs Go.ChangeShapes Go.WideShapes Go.RowKit
set_option maxRecDepth 10000

def strV (s : List UInt8) : Value := .string ⟨s.toArray⟩
def entC (x : Ent) : List Value := [.int .i64 x.tag, strV x.text, .int .i64 x.n, .int .i64 x.a, .int .i64 x.b]
def entV (x : Ent) : Value := .agg #[.int .i64 x.tag, strV x.text, .int .i64 x.n, .int .i64 x.a, .int .i64 x.b]
def conCs (c : Con) : List Value := [.int .i64 c.tag, .int .i64 c.n, strV c.cl, strV c.nm, strV c.ty]
def conV (c : Con) : Value := .agg #[.int .i64 c.tag, .int .i64 c.n, strV c.cl, strV c.nm, strV c.ty]
theorem wf64 {z : Int} (hw : (Lit.int .i64 z).wf = true) : -9223372036854775808 ≤ z ∧ z ≤ 9223372036854775807 := by
  simp [Lit.wf, IntKind.min, IntKind.max, IntKind.signed, IntKind.bits] at hw
  omega
theorem sEnt : structOf Try.prog 67 = [(3, 0), (9, 1), (3, 2), (3, 3), (3, 4)] := by kernel_rfl
theorem cEnt : Try.prog.cellsOf 67 = 5 := by kernel_rfl
theorem uEnts : Try.prog.underlying 22 = some (.slice 67) := by kernel_rfl
theorem sCon : structOf Try.prog 24 = [(3, 0), (3, 1), (9, 2), (9, 3), (9, 4)] := by kernel_rfl
theorem cCon : Try.prog.cellsOf 24 = 5 := by kernel_rfl
theorem uInt : Try.prog.underlying 3 = some (.int .i64) := by kernel_rfl
theorem cInt : Try.prog.cellsOf 3 = 1 := by kernel_rfl
theorem uStr : Try.prog.underlying 9 = some .string := by kernel_rfl
theorem cStr : Try.prog.cellsOf 9 = 1 := by kernel_rfl
theorem list5 {cs : List Value} {a b c d e : Value} (hl : cs.length = 5) (h0 : cs[0]? = some a) (h1 : cs[1]? = some b) (h2 : cs[2]? = some c) (h3 : cs[3]? = some d) (h4 : cs[4]? = some e) : cs = [a, b, c, d, e] := by
  match cs, hl with
  | [x0, x1, x2, x3, x4], _ => simp_all
abbrev I64 (z : Int) : Prop := -9223372036854775808 ≤ z ∧ z ≤ 9223372036854775807
structure EntOk (x : Ent) : Prop where
  tag : I64 x.tag
  text : x.text.length ≤ 9223372036854775807
  n : I64 x.n
  a : I64 x.a
  b : I64 x.b
structure ConOk (c : Con) : Prop where
  tag : I64 c.tag
  n : I64 c.n
  cl : c.cl.length ≤ 9223372036854775807
  nm : c.nm.length ≤ 9223372036854775807
  ty : c.ty.length ≤ 9223372036854775807
theorem str_back (s : ByteArray) : strV s.data.toList = .string s := by
  unfold strV
  congr 1
theorem str_len (s : ByteArray) : s.data.toList.length = s.size := Array.length_toList
theorem ent_of {H : Type} {enc : TypeId × Value → H} {W : World} {fuel : Nat} {cs : List Value} {x : DataW H × List MemPlace} (h : DataW.trod enc Try.prog W 0 (fun _ => true) true fuel 67 cs = some x) : ∃ r : Ent, cs = entC r ∧ EntOk r := by
  obtain ⟨hl, n', hf'⟩ := trod_fields sEnt (by simp) h
  rw [cEnt] at hl
  obtain ⟨_, y0⟩ := hf' 0 _ _ rfl
  obtain ⟨_, y1⟩ := hf' 1 _ _ rfl
  obtain ⟨_, y2⟩ := hf' 2 _ _ rfl
  obtain ⟨_, y3⟩ := hf' 3 _ _ rfl
  obtain ⟨_, y4⟩ := hf' 4 _ _ rfl
  obtain ⟨z0, g0, b0⟩ := field_int uInt cInt y0
  obtain ⟨s, g1, b1⟩ := field_string uStr cStr y1
  obtain ⟨z2, g2, b2⟩ := field_int uInt cInt y2
  obtain ⟨z3, g3, b3⟩ := field_int uInt cInt y3
  obtain ⟨z4, g4, b4⟩ := field_int uInt cInt y4
  refine ⟨⟨z0, s.data.toList, z2, z3, z4⟩, ?_, wf64 b0, ?_, wf64 b2, wf64 b3, wf64 b4⟩
  · unfold entC
    rw [str_back]
    exact list5 hl g0 g1 g2 g3 g4
  · show s.data.toList.length ≤ _
    rw [str_len]
    omega
theorem con_of {H : Type} {enc : TypeId × Value → H} {W : World} {fuel : Nat} {cs : List Value} {x : DataW H × List MemPlace} (h : DataW.trod enc Try.prog W 0 (fun _ => true) true fuel 24 cs = some x) : ∃ r : Con, cs = conCs r ∧ ConOk r := by
  obtain ⟨hl, n', hf'⟩ := trod_fields sCon (by simp) h
  rw [cCon] at hl
  obtain ⟨_, y0⟩ := hf' 0 _ _ rfl
  obtain ⟨_, y1⟩ := hf' 1 _ _ rfl
  obtain ⟨_, y2⟩ := hf' 2 _ _ rfl
  obtain ⟨_, y3⟩ := hf' 3 _ _ rfl
  obtain ⟨_, y4⟩ := hf' 4 _ _ rfl
  obtain ⟨z0, g0, b0⟩ := field_int uInt cInt y0
  obtain ⟨z1, g1, b1⟩ := field_int uInt cInt y1
  obtain ⟨s2, g2, b2⟩ := field_string uStr cStr y2
  obtain ⟨s3, g3, b3⟩ := field_string uStr cStr y3
  obtain ⟨s4, g4, b4⟩ := field_string uStr cStr y4
  refine ⟨⟨z0, z1, s2.data.toList, s3.data.toList, s4.data.toList⟩, ?_, wf64 b0, wf64 b1, ?_, ?_, ?_⟩
  · unfold conCs
    simp only [str_back]
    exact list5 hl g0 g1 g2 g3 g4
  · show s2.data.toList.length ≤ _; rw [str_len]; omega
  · show s3.data.toList.length ≤ _; rw [str_len]; omega
  · show s4.data.toList.length ≤ _; rw [str_len]; omega
theorem open_con {H : Type} {enc : TypeId × Value → H} {r : Reach} {b0 : Nat} {v : Value} {d : DataW H} {ps : List MemPlace} {W : World}
    (hval : Value.okWide Try.prog W r b0 24 v) (hd : DataW.Trod enc Try.prog W 0 (fun _ => true) true 24 v d ps) : ∃ x : Con, v = conV x ∧ ConOk x := by
  obtain ⟨cs, rfl⟩ := okWide_agg (show isStructB Try.prog 24 = true by kernel_rfl) hval
  obtain ⟨fuel, hf⟩ := hd
  obtain ⟨x, hx, hok⟩ := con_of hf
  refine ⟨x, ?_, hok⟩
  have e1 : (Value.agg cs).cells = cs := rfl
  rw [e1] at hx
  have e2 : cs = (conCs x).toArray := by
    apply Array.ext'
    rw [hx]
  rw [e2]
  rfl
theorem open_ents {H : Type} {enc : TypeId × Value → H} {r : Reach} {b0 : Nat} {v : Value} {d : DataW H} {ps : List MemPlace} {W : World}
    (hval : Value.okWide Try.prog W r b0 22 v) (hd : DataW.Trod enc Try.prog W 0 (fun _ => true) true 22 v d ps) (hsz : Sz Try.prog 22 d) :
    ∃ A n c l, v = .slice A n c ∧ n = List.length l ∧ n ≤ c ∧ c ≤ 9223372036854775807 ∧ Rows2 W A 5 (l.map entC) ∧ n * 48 ≤ 140737488351232 ∧ ∀ x ∈ l, EntOk x := by
  obtain ⟨a0, len, cap, rfl⟩ := okWide_slice uEnts hval
  obtain ⟨fuel, hf⟩ := hd
  obtain ⟨A, n, c, css, m, hcs, hn, hc, hm, hr, hw, he⟩ := trod_elemsW uEnts hf
  simp only [Value.cells, List.cons.injEq, and_true] at hcs
  cases hcs
  rw [cEnt] at hr
  have each : ∀ (i : Nat) cs, css[i]? = some cs → ∃ x : Ent, cs = entC x ∧ EntOk x := by
    intro i cs hi
    obtain ⟨y, hy, _⟩ := he i cs hi
    exact ent_of hy
  obtain ⟨l, hlen, hl⟩ := each_of each
  have hmap : css = l.map entC := by
    apply List.ext_getElem?
    intro i
    by_cases hi : i < css.length
    · obtain ⟨a, ha, hq, _⟩ := hl i _ (List.getElem?_eq_getElem hi)
      rw [List.getElem?_map, ha, List.getElem?_eq_getElem hi, hq]
      rfl
    · rw [List.getElem?_eq_none (by omega), List.getElem?_eq_none (by simp; omega)]
  have hw' := hw hsz
  rw [show Try.prog.bytesOf 67 = 48 by kernel_rfl] at hw'
  refine ⟨_, _, _, l, rfl, by omega, hc, hm, hmap ▸ hr, hw', ?_⟩
  intro x hx
  obtain ⟨i, hi, rfl⟩ := List.getElem_of_mem hx
  obtain ⟨x', hx', _, hok⟩ := hl i _ (List.getElem?_eq_getElem (by omega))
  rw [List.getElem?_eq_getElem hi] at hx'
  cases hx'
  exact hok
end Go.Proofs.Ytbmlfbcanjobfaa.Pool
