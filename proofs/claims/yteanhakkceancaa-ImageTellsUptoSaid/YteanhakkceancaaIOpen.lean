/- The arguments of the statements on machines, opened. -/
import Derived.Test.YteanhakkceancaaWMath
import Derived.Test.YteanhakkceancaaIWMath
import Derived.Test.YteanhakkceancaaOpenW
import Derived.Test.YteanhakkceancaaRow2
import Derived.Test.YteanhakkceancaaTab
namespace Go.Proofs.Yteanhakkceancaa.Image
open Go Go.Proofs.Yteanhakkceancaa Go.Proofs.Yteanhakkceancaa.Eng Go.Proofs Go.Proofs.Yteanhakkceancaa.Fmt Go.ChangeShapes Go.WideShapes Go.RowKit
set_option maxRecDepth 10000

theorem wf64 {z : Int} (hw : (Lit.int .i64 z).wf = true) : i64 z := by
  simp [Lit.wf, IntKind.min, IntKind.max, IntKind.signed, IntKind.bits] at hw
  unfold i64
  omega
theorem uInt : Try.prog.underlying 3 = some (.int .i64) := by kernel_rfl
theorem cellInt : Try.prog.cellsOf 3 = 1 := by kernel_rfl
theorem uStr : Try.prog.underlying 9 = some .string := by kernel_rfl
theorem cellStr : Try.prog.cellsOf 9 = 1 := by kernel_rfl
theorem uInts : Try.prog.underlying 26 = some (.slice 3) := by kernel_rfl
theorem uVals : Try.prog.underlying 23 = some (.slice 61) := by kernel_rfl
theorem uObjs : Try.prog.underlying 22 = some (.slice 45) := by kernel_rfl
theorem uCalls : Try.prog.underlying 46 = some (.slice 50) := by kernel_rfl
theorem uThrs : Try.prog.underlying 24 = some (.slice 48) := by kernel_rfl
theorem uMons : Try.prog.underlying 25 = some (.slice 69) := by kernel_rfl
theorem lInts : Try.prog.cellsOf 26 = 1 := by kernel_rfl
theorem lVals : Try.prog.cellsOf 23 = 1 := by kernel_rfl
theorem lObjs : Try.prog.cellsOf 22 = 1 := by kernel_rfl
theorem lCalls : Try.prog.cellsOf 46 = 1 := by kernel_rfl
theorem lThrs : Try.prog.cellsOf 24 = 1 := by kernel_rfl
theorem lMons : Try.prog.cellsOf 25 = 1 := by kernel_rfl
theorem cVals : Try.prog.cellsOf 61 = 2 := by kernel_rfl
theorem cObjs : Try.prog.cellsOf 45 = 2 := by kernel_rfl
theorem cCalls : Try.prog.cellsOf 50 = 6 := by kernel_rfl
theorem cThrs : Try.prog.cellsOf 48 = 4 := by kernel_rfl
theorem cMons : Try.prog.cellsOf 69 = 3 := by kernel_rfl
theorem cMachs : Try.prog.cellsOf 28 = 10 := by kernel_rfl
theorem sVal : structOf Try.prog 61 = [(3, 0), (3, 1)] := by kernel_rfl
theorem sObj : structOf Try.prog 45 = [(9, 0), (23, 1)] := by kernel_rfl
theorem sCall : structOf Try.prog 50 = [(3, 0), (3, 1), (3, 2), (23, 3), (23, 4), (3, 5)] := by kernel_rfl
theorem sThr : structOf Try.prog 48 = [(3, 0), (46, 1), (3, 2), (3, 3)] := by kernel_rfl
theorem sMon : structOf Try.prog 69 = [(3, 0), (3, 1), (3, 2)] := by kernel_rfl
theorem sMach : structOf Try.prog 28 = [(3, 0), (22, 1), (23, 2), (24, 3), (25, 4), (3, 5), (26, 6), (26, 7), (3, 8), (3, 9)] := by kernel_rfl
abbrev S0 (W : World) : Nat → Prop := fun b => W.heap.size ≤ b
section
variable {H : Type} {enc : TypeId × Value → H} {W : World} {fuel : Nat} {cs : List Value} {x : DataW H × List MemPlace}
/-- What a list's memory is, if one knows what its members' is. -/
theorem list_of {α : Type} {R : RepT α} {sz : Nat} {fine : α → Prop} {tl te : TypeId} (hR : RepOk R sz) (hsz : 0 < sz) (hu : Try.prog.underlying tl = some (.slice te)) (hc : Try.prog.cellsOf te = sz) (hb : 8 ≤ Try.prog.bytesOf te)
    (el : ∀ (fuel : Nat) (cs : List Value) (x : DataW H × List MemPlace), DataW.trod enc Try.prog W 0 (fun _ => true) true fuel te cs = some x → Sz Try.prog te x.1 → ∃ y : α, R W (S0 W) cs y ∧ fine y)
    (h : DataW.trod enc Try.prog W 0 (fun _ => true) true fuel tl cs = some x) (hs : Sz Try.prog tl x.1) : ∃ v xs, cs = [v] ∧ LRep R W (S0 W) v xs ∧ ∀ y ∈ xs, fine y := by
  obtain ⟨A, n, c, css, m, hcs, hn, hcap, hm, hr, hw, he⟩ := trod_elemsW hu h
  rw [hc] at hr
  have each : ∀ (i : Nat) cs, css[i]? = some cs → ∃ y : α, R W (S0 W) cs y ∧ fine y := by
    intro i cs hi
    obtain ⟨y, hy, hsy⟩ := he i cs hi
    exact el _ _ _ hy (hsy hs)
  obtain ⟨l, hlen, hl⟩ := each_of each
  have hw' := hw hs
  have hrb : reachBytes ≤ 140737488355328 := by decide
  have hn8 : n * 8 ≤ n * Try.prog.bytesOf te := Nat.mul_le_mul_left n hb
  have hmap : (css.zip l).map (·.1) = css := by rw [List.map_fst_zip]; omega
  have hmap2 : (css.zip l).map (·.2) = l := by rw [List.map_snd_zip]; omega
  refine ⟨_, l, hcs, ⟨A, c, css.zip l, by rw [hlen, ← hn], hmap2, by omega, hm, by omega, ?_, ?_, ?_⟩, ?_⟩
  · show Row W A ((css.zip l).map (·.1)).flatten
    rw [hmap]
    exact row_of_rows2 hr
  · intro a ha hne
    have hlt : a.block < W.heap.size := by
      refine (row_of_rows2 hr).lt ?_ ha
      intro e
      have h0 : 0 < css.length := by
        refine Nat.pos_of_ne_zero fun h0 => hne ?_
        rw [List.length_eq_zero_iff.1 h0]
        rfl
      have h1 := hr 0 _ (List.getElem?_eq_getElem h0)
      have h2 : css[0] = [] := by
        have := List.flatten_eq_nil_iff.1 e
        exact this _ (List.getElem_mem h0)
      rw [h2] at h1
      simp at h1
      omega
    exact ⟨hlt, by show ¬ W.heap.size ≤ a.block; omega⟩
  · intro t ht
    obtain ⟨i, hi, rfl⟩ := List.getElem_of_mem ht
    have hi1 : i < css.length := by rw [List.length_zip] at hi; omega
    have hi2 : i < l.length := by omega
    obtain ⟨y, hy, hok⟩ := hl i _ (List.getElem?_eq_getElem hi1)
    rw [List.getElem?_eq_getElem hi2] at hy
    cases hy
    rw [List.getElem_zip]
    exact hok.1
  · intro y hy
    obtain ⟨i, hi, rfl⟩ := List.getElem_of_mem hy
    have hi1 : i < css.length := by omega
    obtain ⟨y', hy', hok⟩ := hl i _ (List.getElem?_eq_getElem hi1)
    rw [List.getElem?_eq_getElem hi] at hy'
    cases hy'
    exact hok.2
theorem l2 {cs : List Value} {a b : Value} (hl : cs.length = 2) (h0 : cs[0]? = some a) (h1 : cs[1]? = some b) : cs = [a, b] := by
  match cs, hl with
  | [x0, x1], _ => simp_all
theorem l3 {cs : List Value} {a b c : Value} (hl : cs.length = 3) (h0 : cs[0]? = some a) (h1 : cs[1]? = some b) (h2 : cs[2]? = some c) : cs = [a, b, c] := by
  match cs, hl with
  | [x0, x1, x2], _ => simp_all
theorem l4 {cs : List Value} {a b c d : Value} (hl : cs.length = 4) (h0 : cs[0]? = some a) (h1 : cs[1]? = some b) (h2 : cs[2]? = some c) (h3 : cs[3]? = some d) : cs = [a, b, c, d] := by
  match cs, hl with
  | [x0, x1, x2, x3], _ => simp_all
theorem l6 {cs : List Value} {a b c d e f : Value} (hl : cs.length = 6) (h0 : cs[0]? = some a) (h1 : cs[1]? = some b) (h2 : cs[2]? = some c) (h3 : cs[3]? = some d) (h4 : cs[4]? = some e) (h5 : cs[5]? = some f) : cs = [a, b, c, d, e, f] := by
  match cs, hl with
  | [x0, x1, x2, x3, x4, x5], _ => simp_all
theorem l10 {cs : List Value} {a b c d e f g h i j : Value} (hl : cs.length = 10) (h0 : cs[0]? = some a) (h1 : cs[1]? = some b) (h2 : cs[2]? = some c) (h3 : cs[3]? = some d) (h4 : cs[4]? = some e) (h5 : cs[5]? = some f) (h6 : cs[6]? = some g) (h7 : cs[7]? = some h) (h8 : cs[8]? = some i) (h9 : cs[9]? = some j) : cs = [a, b, c, d, e, f, g, h, i, j] := by
  match cs, hl with
  | [x0, x1, x2, x3, x4, x5, x6, x7, x8, x9], _ => simp_all
theorem int_of (h : DataW.trod enc Try.prog W 0 (fun _ => true) true fuel 3 cs = some x) : ∃ y : Int, intR W (S0 W) cs y ∧ i64 y := by
  obtain ⟨n, h1, _, hw⟩ := DataW.trod_int uInt h
  exact ⟨n, h1, wf64 hw⟩
theorem val_of (h : DataW.trod enc Try.prog W 0 (fun _ => true) true fuel 61 cs = some x) : ∃ y : Val, valR W (S0 W) cs y ∧ fVal y := by
  obtain ⟨hl, n', hf'⟩ := trod_fields sVal (by simp) h
  rw [cVals] at hl
  obtain ⟨_, y0⟩ := hf' 0 _ _ rfl
  obtain ⟨_, y1⟩ := hf' 1 _ _ rfl
  obtain ⟨z0, g0, _⟩ := field_int uInt cellInt y0
  obtain ⟨z1, g1, b1⟩ := field_int uInt cellInt y1
  exact ⟨⟨z0, z1⟩, l2 hl g0 g1, wf64 b1⟩
theorem mon_of (h : DataW.trod enc Try.prog W 0 (fun _ => true) true fuel 69 cs = some x) : ∃ y : Mon, monR W (S0 W) cs y ∧ fMon y := by
  obtain ⟨hl, n', hf'⟩ := trod_fields sMon (by simp) h
  rw [cMons] at hl
  obtain ⟨_, y0⟩ := hf' 0 _ _ rfl
  obtain ⟨_, y1⟩ := hf' 1 _ _ rfl
  obtain ⟨_, y2⟩ := hf' 2 _ _ rfl
  obtain ⟨z0, g0, b0⟩ := field_int uInt cellInt y0
  obtain ⟨z1, g1, b1⟩ := field_int uInt cellInt y1
  obtain ⟨z2, g2, b2⟩ := field_int uInt cellInt y2
  exact ⟨⟨z0, z1, z2⟩, l3 hl g0 g1 g2, wf64 b0, wf64 b1, wf64 b2⟩
theorem vals_of (h : DataW.trod enc Try.prog W 0 (fun _ => true) true fuel 23 cs = some x) (hs : Sz Try.prog 23 x.1) : ∃ v xs, cs = [v] ∧ LRep valR W (S0 W) v xs ∧ ∀ y ∈ xs, fVal y :=
  list_of valOk (by decide) uVals cVals (by rw [show Try.prog.bytesOf 61 = 16 by kernel_rfl]; decide) (fun _ _ _ h _ => val_of h) h hs
theorem ints_of (h : DataW.trod enc Try.prog W 0 (fun _ => true) true fuel 26 cs = some x) (hs : Sz Try.prog 26 x.1) : ∃ v xs, cs = [v] ∧ LRep intR W (S0 W) v xs ∧ ∀ y ∈ xs, i64 y :=
  list_of intOk (by decide) uInts cellInt (by rw [show Try.prog.bytesOf 3 = 8 by kernel_rfl]; decide) (fun _ _ _ h _ => int_of h) h hs
theorem mons_of (h : DataW.trod enc Try.prog W 0 (fun _ => true) true fuel 25 cs = some x) (hs : Sz Try.prog 25 x.1) : ∃ v xs, cs = [v] ∧ LRep monR W (S0 W) v xs ∧ ∀ y ∈ xs, fMon y :=
  list_of monOk (by decide) uMons cMons (by rw [show Try.prog.bytesOf 69 = 24 by kernel_rfl]; decide) (fun _ _ _ h _ => mon_of h) h hs
theorem obj_of (h : DataW.trod enc Try.prog W 0 (fun _ => true) true fuel 45 cs = some x) (hs : Sz Try.prog 45 x.1) : ∃ y : Obj, objR W (S0 W) cs y ∧ fObj y := by
  obtain ⟨hl, n', hf'⟩ := trod_fieldsW sObj (by simp) h
  rw [cObjs] at hl
  obtain ⟨_, y0, _⟩ := hf' 0 _ _ rfl
  obtain ⟨_, y1, s1⟩ := hf' 1 _ _ rfl
  obtain ⟨s, g0, _⟩ := field_string uStr cellStr y0
  obtain ⟨v, l, g1, hv, hf⟩ := vals_of y1 (s1 hs)
  rw [lVals] at g1
  exact ⟨⟨s.data.toList, l⟩, ⟨v, l2 hl (by rw [g0]) (cell_of_cut g1), hv⟩, hf⟩
theorem objs_of (h : DataW.trod enc Try.prog W 0 (fun _ => true) true fuel 22 cs = some x) (hs : Sz Try.prog 22 x.1) : ∃ v xs, cs = [v] ∧ LRep objR W (S0 W) v xs ∧ ∀ y ∈ xs, fObj y :=
  list_of objOk (by decide) uObjs cObjs (by rw [show Try.prog.bytesOf 45 = 40 by kernel_rfl]; decide) (fun _ _ _ h hs => obj_of h hs) h hs
theorem call_of (h : DataW.trod enc Try.prog W 0 (fun _ => true) true fuel 50 cs = some x) (hs : Sz Try.prog 50 x.1) : ∃ y : Call, callR W (S0 W) cs y ∧ fCall y := by
  obtain ⟨hl, n', hf'⟩ := trod_fieldsW sCall (by simp) h
  rw [cCalls] at hl
  obtain ⟨_, y0, _⟩ := hf' 0 _ _ rfl
  obtain ⟨_, y1, _⟩ := hf' 1 _ _ rfl
  obtain ⟨_, y2, _⟩ := hf' 2 _ _ rfl
  obtain ⟨_, y3, s3⟩ := hf' 3 _ _ rfl
  obtain ⟨_, y4, s4⟩ := hf' 4 _ _ rfl
  obtain ⟨_, y5, _⟩ := hf' 5 _ _ rfl
  obtain ⟨z0, g0, b0⟩ := field_int uInt cellInt y0
  obtain ⟨z1, g1, b1⟩ := field_int uInt cellInt y1
  obtain ⟨z2, g2, b2⟩ := field_int uInt cellInt y2
  obtain ⟨v3, l3, g3, hv3, hf3⟩ := vals_of y3 (s3 hs)
  obtain ⟨v4, l4, g4, hv4, hf4⟩ := vals_of y4 (s4 hs)
  obtain ⟨z5, g5, b5⟩ := field_int uInt cellInt y5
  rw [lVals] at g3 g4
  exact ⟨⟨z0, z1, z2, z5, l3, l4⟩, ⟨v3, v4, l6 hl g0 g1 g2 (cell_of_cut g3) (cell_of_cut g4) g5, hv3, hv4⟩, wf64 b0, wf64 b1, wf64 b2, wf64 b5, hf3, hf4⟩
theorem calls_of (h : DataW.trod enc Try.prog W 0 (fun _ => true) true fuel 46 cs = some x) (hs : Sz Try.prog 46 x.1) : ∃ v xs, cs = [v] ∧ LRep callR W (S0 W) v xs ∧ ∀ y ∈ xs, fCall y :=
  list_of callOk (by decide) uCalls cCalls (by rw [show Try.prog.bytesOf 50 = 80 by kernel_rfl]; decide) (fun _ _ _ h hs => call_of h hs) h hs
theorem thr_of (h : DataW.trod enc Try.prog W 0 (fun _ => true) true fuel 48 cs = some x) (hs : Sz Try.prog 48 x.1) : ∃ y : Thr, thrR W (S0 W) cs y ∧ fThr y := by
  obtain ⟨hl, n', hf'⟩ := trod_fieldsW sThr (by simp) h
  rw [cThrs] at hl
  obtain ⟨_, y0, _⟩ := hf' 0 _ _ rfl
  obtain ⟨_, y1, s1⟩ := hf' 1 _ _ rfl
  obtain ⟨_, y2, _⟩ := hf' 2 _ _ rfl
  obtain ⟨_, y3, _⟩ := hf' 3 _ _ rfl
  obtain ⟨z0, g0, b0⟩ := field_int uInt cellInt y0
  obtain ⟨v, l, g1, hv, hf⟩ := calls_of y1 (s1 hs)
  obtain ⟨z2, g2, b2⟩ := field_int uInt cellInt y2
  obtain ⟨z3, g3, b3⟩ := field_int uInt cellInt y3
  rw [lCalls] at g1
  exact ⟨⟨z0, z2, z3, l⟩, ⟨v, l4 hl g0 (cell_of_cut g1) g2 g3, hv⟩, wf64 b0, wf64 b2, wf64 b3, hf⟩
theorem thrs_of (h : DataW.trod enc Try.prog W 0 (fun _ => true) true fuel 24 cs = some x) (hs : Sz Try.prog 24 x.1) : ∃ v xs, cs = [v] ∧ LRep thrR W (S0 W) v xs ∧ ∀ y ∈ xs, fThr y :=
  list_of thrOk (by decide) uThrs cThrs (by rw [show Try.prog.bytesOf 48 = 48 by kernel_rfl]; decide) (fun _ _ _ h hs => thr_of h hs) h hs
theorem mach_of (h : DataW.trod enc Try.prog W 0 (fun _ => true) true fuel 28 cs = some x) (hs : Sz Try.prog 28 x.1) : ∃ y : Mach, machR W (S0 W) cs y ∧ fMach y := by
  obtain ⟨hl, n', hf'⟩ := trod_fieldsW sMach (by simp) h
  rw [cMachs] at hl
  obtain ⟨_, y0, _⟩ := hf' 0 _ _ rfl
  obtain ⟨_, y1, s1⟩ := hf' 1 _ _ rfl
  obtain ⟨_, y2, s2⟩ := hf' 2 _ _ rfl
  obtain ⟨_, y3, s3⟩ := hf' 3 _ _ rfl
  obtain ⟨_, y4, s4⟩ := hf' 4 _ _ rfl
  obtain ⟨_, y5, _⟩ := hf' 5 _ _ rfl
  obtain ⟨_, y6, s6⟩ := hf' 6 _ _ rfl
  obtain ⟨_, y7, s7⟩ := hf' 7 _ _ rfl
  obtain ⟨_, y8, _⟩ := hf' 8 _ _ rfl
  obtain ⟨_, y9, _⟩ := hf' 9 _ _ rfl
  obtain ⟨z0, g0, b0⟩ := field_int uInt cellInt y0
  obtain ⟨v1, k1, g1, hv1, hf1⟩ := objs_of y1 (s1 hs)
  obtain ⟨v2, k2, g2, hv2, hf2⟩ := vals_of y2 (s2 hs)
  obtain ⟨v3, k3, g3, hv3, hf3⟩ := thrs_of y3 (s3 hs)
  obtain ⟨v4, k4, g4, hv4, hf4⟩ := mons_of y4 (s4 hs)
  obtain ⟨z5, g5, b5⟩ := field_int uInt cellInt y5
  obtain ⟨v6, k6, g6, hv6, hf6⟩ := ints_of y6 (s6 hs)
  obtain ⟨v7, k7, g7, hv7, hf7⟩ := ints_of y7 (s7 hs)
  obtain ⟨z8, g8, b8⟩ := field_int uInt cellInt y8
  obtain ⟨z9, g9, b9⟩ := field_int uInt cellInt y9
  rw [lObjs] at g1
  rw [lVals] at g2
  rw [lThrs] at g3
  rw [lMons] at g4
  rw [lInts] at g6 g7
  exact ⟨⟨z0, z5, z8, z9, k6, k7, k2, k1, k3, k4⟩, ⟨v1, v2, v3, v4, v6, v7, l10 hl g0 (cell_of_cut g1) (cell_of_cut g2) (cell_of_cut g3) (cell_of_cut g4) g5 (cell_of_cut g6) (cell_of_cut g7) g8 g9, hv1, hv2, hv3, hv4, hv6, hv7⟩, wf64 b0, wf64 b5, wf64 b8, wf64 b9, hf6, hf7, hf2, hf1, hf3, hf4⟩
end
theorem open_mach {H : Type} {enc : TypeId × Value → H} {r : Reach} {b0 : Nat} {v : Value} {d : DataW H} {ps : List MemPlace} {W : World}
    (hval : Value.okWide Try.prog W r b0 28 v) (hd : DataW.Trod enc Try.prog W 0 (fun _ => true) true 28 v d ps) (hsz : Sz Try.prog 28 d) :
    ∃ cs m, v = .agg (List.toArray cs) ∧ machR W (S0 W) cs m ∧ fMach m := by
  obtain ⟨cs, rfl⟩ := okWide_agg (show isStructB Try.prog 28 = true by kernel_rfl) hval
  obtain ⟨fuel, hf⟩ := hd
  obtain ⟨m, hm, ho⟩ := mach_of hf hsz
  have e1 : (Value.agg cs).cells = cs := rfl
  rw [e1] at hm
  exact ⟨cs.toList, m, rfl, hm, ho⟩
end Go.Proofs.Yteanhakkceancaa.Image
