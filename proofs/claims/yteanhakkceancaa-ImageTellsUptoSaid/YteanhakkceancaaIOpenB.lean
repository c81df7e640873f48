/- A machine as an argument, opened, with its bulk. Printed by genopenb.py. -/
import Derived.Test.YteanhakkceancaaIOpen
import Derived.Test.YteanhakkceancaaITells2
import Derived.Test.YteanhakkceancaaRows
namespace Go.Proofs.Yteanhakkceancaa.Image
open Go Go.Proofs.Yteanhakkceancaa Go.Proofs.Yteanhakkceancaa.Eng Go.Proofs Go.Proofs.Yteanhakkceancaa.Fmt Go.ChangeShapes Go.WideShapes Go.RowKit
set_option maxRecDepth 10000
section
variable {H : Type} {enc : TypeId × Value → H} {W : World} {fuel : Nat} {cs : List Value} {x : DataW H × List MemPlace}
abbrev bulk {H : Type} (d : DataW H) : Nat := Rows.uptoBulk d
abbrev bulks {H : Type} (l : List (DataW H × List MemPlace)) : Nat := Rows.uptoBulkAll (l.map (·.1))
theorem bulks_cons (a : DataW H × List MemPlace) (l : List (DataW H × List MemPlace)) : bulks (a :: l) = bulk a.1 + bulks l := by
  unfold bulks bulk
  rw [List.map_cons, Rows.uptoBulkAll]
theorem bulks_nil : bulks ([] : List (DataW H × List MemPlace)) = 0 := by
  unfold bulks
  rw [List.map_nil, Rows.uptoBulkAll]
theorem bulk_agg {l : List (DataW H × List MemPlace)} {ps : List MemPlace} : bulk (DataW.agg (l.map (·.1)), ps).1 = bulks l + 1 := by
  unfold bulks bulk
  dsimp only
  rw [Rows.uptoBulk]
theorem bulk_slice {l r : List (DataW H × List MemPlace)} {ps : List MemPlace} : bulks l + 1 ≤ bulk (DataW.slice (l.map (·.1)) (r.map (·.1)), ps).1 := by
  unfold bulks bulk
  dsimp only
  rw [Rows.uptoBulk]
  omega
theorem bulk_nil {ps : List MemPlace} : bulk ((DataW.nil, ps) : DataW H × List MemPlace).1 = 1 := by
  unfold bulk
  dsimp only
  rw [Rows.uptoBulk]
theorem trod_elemsB {t e : TypeId} (ht : Try.prog.underlying t = some (.slice e)) (h : DataW.trod enc Try.prog W 0 (fun _ => true) true fuel t cs = some x) :
    ∃ A n c css ys m, cs = [.slice A n c] ∧ n = List.length css ∧ n ≤ c ∧ c ≤ 9223372036854775807 ∧ Rows2 W A (Try.prog.cellsOf e) css ∧ (Sz Try.prog t x.1 → n * Try.prog.bytesOf e ≤ reachBytes) ∧ ys.length = css.length ∧ bulks ys + 1 ≤ bulk x.1 ∧ ∀ (i : Nat) d, css[i]? = some d → ∃ y, ys[i]? = some y ∧ DataW.trod enc Try.prog W 0 (fun _ => true) true m e d = some y ∧ (Sz Try.prog t x.1 → Sz Try.prog e y.1) := by
  rcases DataW.trod_slice ht h with ⟨h0, hx⟩ | ⟨a, len, cap, elems, rest, n, _, hcs, hx, hb, hl, hm, hlen, hel, _⟩
  · exact ⟨none, 0, 0, [], [], 0, h0, rfl, Nat.le_refl _, by omega, fun i cs hi => by simp at hi, fun _ => by simp, rfl, by rw [hx, bulk_nil, bulks_nil]; omega, fun i d hi => by simp at hi⟩
  · have hsz : Sz Try.prog t x.1 → Sz Try.prog t (.slice (elems.map (·.1)) (rest.map (·.1))) := by rw [hx]; exact id
    have each : ∀ i, i < len → ∃ d y, W.cells? 0 (a.add (i * Try.prog.cellsOf e)) (Try.prog.cellsOf e) = some d ∧ elems[i]? = some y ∧ DataW.trod enc Try.prog W 0 (fun _ => true) true n e d = some y ∧ (Sz Try.prog t x.1 → Sz Try.prog e y.1) := by
      intro i hi
      have := hel i hi
      rw [List.getElem?_eq_getElem (by omega), Option.bind_eq_some_iff] at this
      obtain ⟨d, h1, h2⟩ := this
      exact ⟨d, _, h1, List.getElem?_eq_getElem (by omega), h2, fun hs => (sz_slice ht (hsz hs)).2 _ (List.mem_map.2 ⟨_, List.getElem_mem _, rfl⟩)⟩
    have hlist : ∀ m, m ≤ len → ∃ css : List (List Value), css.length = m ∧ ∀ i d, css[i]? = some d → ∃ y, W.cells? 0 (a.add (i * Try.prog.cellsOf e)) (Try.prog.cellsOf e) = some d ∧ elems[i]? = some y ∧ DataW.trod enc Try.prog W 0 (fun _ => true) true n e d = some y ∧ (Sz Try.prog t x.1 → Sz Try.prog e y.1) := by
      intro m
      induction m with
      | zero => exact fun _ => ⟨[], rfl, fun i d hi => by simp at hi⟩
      | succ m ih =>
        intro hm
        obtain ⟨css, hlc, hc⟩ := ih (by omega)
        obtain ⟨d, y, h1, h2⟩ := each m (by omega)
        refine ⟨css ++ [d], by simp [hlc], fun i d' hi => ?_⟩
        by_cases him : i < m
        · rw [List.getElem?_append_left (by omega)] at hi
          exact hc i d' hi
        · have hi2 : i = m := by
            have := (List.getElem?_eq_some_iff.1 hi).1
            simp at this
            omega
          subst hi2
          rw [List.getElem?_append_right (by omega), hlc, Nat.sub_self] at hi
          simp only [List.getElem?_cons_zero, Option.some.injEq] at hi
          subst hi
          exact ⟨y, h1, h2⟩
    obtain ⟨css, hlc, hc⟩ := hlist len (Nat.le_refl _)
    refine ⟨some a, len, cap, css, elems, n, hcs, hlc.symm, hl, by unfold maxLen at hm; omega, ?_, ?_, by omega, by rw [hx]; exact bulk_slice, ?_⟩
    · intro i d hi
      obtain ⟨y, h1, _⟩ := hc i d hi
      obtain ⟨_, h3, h4⟩ := World.cells?_some h1
      refine ⟨h3, a, rfl, fun k u hu => ?_⟩
      rw [h4 k (by rw [← h3]; exact (List.getElem?_eq_some_iff.1 hu).1), hu]
    · intro hs
      have := (sz_slice ht (hsz hs)).1
      rw [List.length_map, hlen] at this
      exact Nat.le_trans (Nat.mul_le_mul_right _ (by omega)) this
    · intro i d hi
      obtain ⟨y, _, h2⟩ := hc i d hi
      exact ⟨y, h2⟩
theorem trod_fieldsB {e : TypeId} {l : List (TypeId × Nat)} (hl : structOf Try.prog e = l) (hne : l ≠ []) (h : DataW.trod enc Try.prog W 0 (fun _ => true) true fuel e cs = some x) :
    cs.length = Try.prog.cellsOf e ∧ ∃ n xs, bulk x.1 = bulks xs + 1 ∧ xs.length = l.length ∧ ∀ (i : Nat) t off, l[i]? = some (t, off) → ∃ y, xs[i]? = some y ∧ DataW.trod enc Try.prog W 0 (fun _ => true) true n t ((cs.drop off).take (Try.prog.cellsOf t)) = some y ∧ (Sz Try.prog e x.1 → Sz Try.prog t y.1) := by
  unfold structOf at hl
  split at hl
  · rename_i fs hu
    obtain ⟨xs, n, _, hxx, hlen, hx, hf⟩ := DataW.trod_struct hu h
    refine ⟨hlen, n, xs, by rw [hxx]; exact bulk_agg, by rw [← hl, List.length_map, Array.length_toList]; exact hx, fun i t off hi => ?_⟩
    rw [← hl, List.getElem?_map, Option.map_eq_some_iff] at hi
    obtain ⟨f, hf', e⟩ := hi
    simp only [Prod.mk.injEq] at e
    obtain ⟨rfl, rfl⟩ := e
    have hff : fs[i]? = some f := by simpa using hf'
    have := hf i f hff
    have hi' : i < xs.length := by rw [hx]; exact (Array.getElem?_eq_some_iff.1 hff).1
    refine ⟨xs[i], List.getElem?_eq_getElem hi', by rw [this, List.getElem?_eq_getElem hi'], fun hs N hN => hs N ?_⟩
    rw [hxx]
    simp only [DataW.weights, hu]
    exact DataW.weights_mem_each (j := i) (by rw [List.getElem?_map, hf']; rfl) (by rw [List.getElem?_map, List.getElem?_eq_getElem hi']; rfl) N hN
  · exact absurd hl.symm hne
theorem csum_le_bulks {α : Type} {cost : α → Nat} : ∀ {l : List α} {ys : List (DataW H × List MemPlace)}, l.length = ys.length → (∀ (i : Nat) y d, l[i]? = some y → ys[i]? = some d → cost y ≤ 261 * bulk d.1) → csum cost l ≤ 261 * bulks ys
  | [], _, _, _ => Nat.zero_le _
  | a :: l, [], h, _ => by cases h
  | a :: l, d :: ys, h, g => by
    have h1 := g 0 a d rfl rfl
    have h2 := csum_le_bulks (l := l) (ys := ys) (by simpa using h) fun i y d h1 h2 => g (i + 1) y d h1 h2
    have e : csum cost (a :: l) = cost a + csum cost l := by simp [csum]
    rw [e, bulks_cons]
    omega
theorem each_of2 {α β : Type} : ∀ {l : List α} {Q : Nat → α → β → Prop}, (∀ (i : Nat) x, l[i]? = some x → ∃ y, Q i x y) → ∃ r : List β, r.length = l.length ∧ ∀ (i : Nat) x, l[i]? = some x → ∃ y, r[i]? = some y ∧ Q i x y
  | [], _, _ => ⟨[], rfl, fun i x h => by simp at h⟩
  | a :: l, Q, h => by
    obtain ⟨y, hy⟩ := h 0 a rfl
    obtain ⟨r, hl, hr⟩ := each_of2 (l := l) (Q := fun i => Q (i + 1)) fun i x hx => h (i + 1) x (by simpa using hx)
    refine ⟨y :: r, by simp [hl], fun i x hx => ?_⟩
    cases i with
    | zero =>
      simp only [List.getElem?_cons_zero, Option.some.injEq] at hx
      subst hx
      exact ⟨y, rfl, hy⟩
    | succ i =>
      obtain ⟨z, h1, h2⟩ := hr i x (by simpa using hx)
      exact ⟨z, by simpa using h1, h2⟩
theorem list_ofB {α : Type} {R : RepT α} {sz : Nat} {fine : α → Prop} {cost : α → Nat} {tl te : TypeId} (hR : RepOk R sz) (hsz : 0 < sz) (hu : Try.prog.underlying tl = some (.slice te)) (hc : Try.prog.cellsOf te = sz) (hb : 8 ≤ Try.prog.bytesOf te)
    (el : ∀ (fuel : Nat) (cs : List Value) (x : DataW H × List MemPlace), DataW.trod enc Try.prog W 0 (fun _ => true) true fuel te cs = some x → Sz Try.prog te x.1 → ∃ y : α, R W (S0 W) cs y ∧ fine y ∧ cost y ≤ 261 * bulk x.1)
    (h : DataW.trod enc Try.prog W 0 (fun _ => true) true fuel tl cs = some x) (hs : Sz Try.prog tl x.1) : ∃ v xs, cs = [v] ∧ LRep R W (S0 W) v xs ∧ (∀ y ∈ xs, fine y) ∧ 261 + csum cost xs ≤ 261 * bulk x.1 := by
  obtain ⟨A, n, c, css, ys, m, hcs, hn, hcap, hm, hr, hw, hyl, hbulk, he⟩ := trod_elemsB hu h
  rw [hc] at hr
  have each : ∀ (i : Nat) cs, css[i]? = some cs → ∃ y : α, R W (S0 W) cs y ∧ fine y ∧ ∀ d, ys[i]? = some d → cost y ≤ 261 * bulk d.1 := by
    intro i cs hi
    obtain ⟨y, hyy, hy, hsy⟩ := he i cs hi
    obtain ⟨z, h1, h2, h3⟩ := el _ _ _ hy (hsy hs)
    refine ⟨z, h1, h2, fun d hd => ?_⟩
    rw [hyy] at hd
    cases hd
    exact h3
  obtain ⟨l, hlen, hl⟩ := each_of2 (Q := fun i cs y => R W (S0 W) cs y ∧ fine y ∧ ∀ d, ys[i]? = some d → cost y ≤ 261 * bulk d.1) each
  have hw' := hw hs
  have hrb : reachBytes ≤ 140737488355328 := by decide
  have hn8 : n * 8 ≤ n * Try.prog.bytesOf te := Nat.mul_le_mul_left n hb
  have hmap : (css.zip l).map (·.1) = css := by rw [List.map_fst_zip]; omega
  have hmap2 : (css.zip l).map (·.2) = l := by rw [List.map_snd_zip]; omega
  refine ⟨_, l, hcs, ⟨A, c, css.zip l, by rw [hlen, ← hn], hmap2, by omega, hm, by omega, ?_, ?_, ?_⟩, ?_, ?_⟩
  · show Row W A ((css.zip l).map (·.1)).flatten
    rw [hmap]
    exact row_of_rows2 hr
  · intro a ha hne
    have hlt : a.block < W.heap.size := by
      refine (row_of_rows2 hr).lt ?_ ha
      intro e
      have h0 : 0 < css.length := by
        refine Nat.pos_of_ne_zero fun h0 => hne ?_
        rw [List.length_eq_zero_iff.1 h0]
        rfl
      have h1 := hr 0 _ (List.getElem?_eq_getElem h0)
      have h2 : css[0] = [] := by
        have := List.flatten_eq_nil_iff.1 e
        exact this _ (List.getElem_mem h0)
      rw [h2] at h1
      simp at h1
      omega
    exact ⟨hlt, by show ¬ W.heap.size ≤ a.block; omega⟩
  · intro t ht
    obtain ⟨i, hi, rfl⟩ := List.getElem_of_mem ht
    have hi1 : i < css.length := by rw [List.length_zip] at hi; omega
    have hi2 : i < l.length := by omega
    obtain ⟨y, hy, hok⟩ := hl i _ (List.getElem?_eq_getElem hi1)
    rw [List.getElem?_eq_getElem hi2] at hy
    cases hy
    rw [List.getElem_zip]
    exact hok.1
  · intro y hy
    obtain ⟨i, hi, rfl⟩ := List.getElem_of_mem hy
    have hi1 : i < css.length := by omega
    obtain ⟨y', hy', hok⟩ := hl i _ (List.getElem?_eq_getElem hi1)
    rw [List.getElem?_eq_getElem hi] at hy'
    cases hy'
    exact hok.2.1
  · have := csum_le_bulks (cost := cost) (l := l) (ys := ys) (by omega) fun i y d h1 h2 => by
      have hi1 : i < css.length := by have := (List.getElem?_eq_some_iff.1 h2).1; omega
      obtain ⟨y', hy', hok⟩ := hl i _ (List.getElem?_eq_getElem hi1)
      rw [h1] at hy'
      cases hy'
      exact hok.2.2 d h2
    omega
theorem bulk_pos (d : DataW H) : 1 ≤ bulk d := by
  unfold bulk
  cases d with
  | lit l => cases l <;> simp [Rows.uptoBulk]
  | nil => simp [Rows.uptoBulk]
  | ptr d => simp [Rows.uptoBulk]
  | slice a b => simp [Rows.uptoBulk]
  | agg a => simp [Rows.uptoBulk]
  | iface t d => simp [Rows.uptoBulk]
  | map a => simp [Rows.uptoBulk]
  | held h => simp [Rows.uptoBulk]
theorem bulk_text {l : List UInt8} {ps : List MemPlace} : bulk ((DataW.lit (.string l), ps) : DataW H × List MemPlace).1 = l.length + 1 := by
  unfold bulk
  dsimp only
  rw [Rows.uptoBulk]
abbrev fkVal (y : Val) : Prop := fVal y ∧ kVal y
abbrev fkObj (y : Obj) : Prop := fObj y ∧ ∀ x ∈ y.words, kVal x
abbrev fkCall (y : Call) : Prop := fCall y ∧ (∀ x ∈ y.locals, kVal x) ∧ ∀ x ∈ y.stack, kVal x
abbrev fkThr (y : Thr) : Prop := fThr y ∧ ∀ c ∈ y.calls, (∀ x ∈ c.locals, kVal x) ∧ ∀ x ∈ c.stack, kVal x
theorem int_ofB (h : DataW.trod enc Try.prog W 0 (fun _ => true) true fuel 3 cs = some x) (_ : Sz Try.prog 3 x.1) : ∃ y : Int, intR W (S0 W) cs y ∧ i64 y ∧ cInt y ≤ 261 * bulk x.1 := by
  obtain ⟨n, h1, _, hw⟩ := DataW.trod_int uInt h
  have := bulk_pos x.1
  exact ⟨n, h1, wf64 hw, by unfold cInt; omega⟩
theorem val_ofB (h : DataW.trod enc Try.prog W 0 (fun _ => true) true fuel 61 cs = some x) (hs : Sz Try.prog 61 x.1) : ∃ y : Val, valR W (S0 W) cs y ∧ fkVal y ∧ cVal y ≤ 261 * bulk x.1 := by
  obtain ⟨hl, n', xs, hbk, hxl, hf'⟩ := trod_fieldsB sVal (by simp) h
  rw [cVals] at hl
  match xs, hxl with
  | [ea, eb], _ =>
  simp only [bulks_cons, bulks_nil] at hbk
  have ba := bulk_pos ea.1
  obtain ⟨_, ra, y0, s0⟩ := hf' 0 _ _ rfl
  cases ra
  have bb := bulk_pos eb.1
  obtain ⟨_, rb, y1, s1⟩ := hf' 1 _ _ rfl
  cases rb
  obtain ⟨z0, g0, b0⟩ := field_int uInt cellInt y0
  obtain ⟨z1, g1, b1⟩ := field_int uInt cellInt y1
  exact ⟨⟨z0, z1⟩, l2 hl g0 g1, ⟨wf64 b1, wf64 b0, wf64 b1⟩, by unfold cVal; omega⟩
theorem mon_ofB (h : DataW.trod enc Try.prog W 0 (fun _ => true) true fuel 69 cs = some x) (hs : Sz Try.prog 69 x.1) : ∃ y : Mon, monR W (S0 W) cs y ∧ fMon y ∧ cMon y ≤ 261 * bulk x.1 := by
  obtain ⟨hl, n', xs, hbk, hxl, hf'⟩ := trod_fieldsB sMon (by simp) h
  rw [cMons] at hl
  match xs, hxl with
  | [ea, eb, ec], _ =>
  simp only [bulks_cons, bulks_nil] at hbk
  have ba := bulk_pos ea.1
  obtain ⟨_, ra, y0, s0⟩ := hf' 0 _ _ rfl
  cases ra
  have bb := bulk_pos eb.1
  obtain ⟨_, rb, y1, s1⟩ := hf' 1 _ _ rfl
  cases rb
  have bc := bulk_pos ec.1
  obtain ⟨_, rc, y2, s2⟩ := hf' 2 _ _ rfl
  cases rc
  obtain ⟨z0, g0, b0⟩ := field_int uInt cellInt y0
  obtain ⟨z1, g1, b1⟩ := field_int uInt cellInt y1
  obtain ⟨z2, g2, b2⟩ := field_int uInt cellInt y2
  exact ⟨⟨z0, z1, z2⟩, l3 hl g0 g1 g2, ⟨wf64 b0, wf64 b1, wf64 b2⟩, by unfold cMon; omega⟩
theorem vals_ofB (h : DataW.trod enc Try.prog W 0 (fun _ => true) true fuel 23 cs = some x) (hs : Sz Try.prog 23 x.1) : ∃ v xs, cs = [v] ∧ LRep valR W (S0 W) v xs ∧ (∀ y ∈ xs, fkVal y) ∧ 261 + csum cVal xs ≤ 261 * bulk x.1 :=
  list_ofB valOk (by decide) uVals cVals (by rw [show Try.prog.bytesOf 61 = 16 by kernel_rfl]; decide) (fun _ _ _ h hs => val_ofB h hs) h hs
theorem ints_ofB (h : DataW.trod enc Try.prog W 0 (fun _ => true) true fuel 26 cs = some x) (hs : Sz Try.prog 26 x.1) : ∃ v xs, cs = [v] ∧ LRep intR W (S0 W) v xs ∧ (∀ y ∈ xs, i64 y) ∧ 261 + csum cInt xs ≤ 261 * bulk x.1 :=
  list_ofB intOk (by decide) uInts cellInt (by rw [show Try.prog.bytesOf 3 = 8 by kernel_rfl]; decide) (fun _ _ _ h hs => int_ofB h hs) h hs
theorem mons_ofB (h : DataW.trod enc Try.prog W 0 (fun _ => true) true fuel 25 cs = some x) (hs : Sz Try.prog 25 x.1) : ∃ v xs, cs = [v] ∧ LRep monR W (S0 W) v xs ∧ (∀ y ∈ xs, fMon y) ∧ 261 + csum cMon xs ≤ 261 * bulk x.1 :=
  list_ofB monOk (by decide) uMons cMons (by rw [show Try.prog.bytesOf 69 = 24 by kernel_rfl]; decide) (fun _ _ _ h hs => mon_ofB h hs) h hs
theorem obj_ofB (h : DataW.trod enc Try.prog W 0 (fun _ => true) true fuel 45 cs = some x) (hs : Sz Try.prog 45 x.1) : ∃ y : Obj, objR W (S0 W) cs y ∧ fkObj y ∧ rObj y ≤ 261 * bulk x.1 := by
  obtain ⟨hl, n', xs, hbk, hxl, hf'⟩ := trod_fieldsB sObj (by simp) h
  rw [cObjs] at hl
  match xs, hxl with
  | [ea, eb], _ =>
  simp only [bulks_cons, bulks_nil] at hbk
  have ba := bulk_pos ea.1
  obtain ⟨_, ra, y0, s0⟩ := hf' 0 _ _ rfl
  cases ra
  have bb := bulk_pos eb.1
  obtain ⟨_, rb, y1, s1⟩ := hf' 1 _ _ rfl
  cases rb
  rw [cellStr] at y0
  obtain ⟨st, g0, hx0, _⟩ := DataW.trod_string uStr y0
  rw [hx0, bulk_text] at hbk
  obtain ⟨v1, k1, g1, hv1, hf1, m1⟩ := vals_ofB y1 (s1 hs)
  rw [lVals] at g1
  exact ⟨⟨st.data.toList, k1⟩, ⟨v1, l2 hl (cell_of_cut g0) (cell_of_cut g1), hv1⟩, ⟨fun y hy => (hf1 y hy).1, fun y hy => (hf1 y hy).2⟩, by unfold rObj; dsimp only; omega⟩
theorem objs_ofB (h : DataW.trod enc Try.prog W 0 (fun _ => true) true fuel 22 cs = some x) (hs : Sz Try.prog 22 x.1) : ∃ v xs, cs = [v] ∧ LRep objR W (S0 W) v xs ∧ (∀ y ∈ xs, fkObj y) ∧ 261 + csum rObj xs ≤ 261 * bulk x.1 :=
  list_ofB objOk (by decide) uObjs cObjs (by rw [show Try.prog.bytesOf 45 = 40 by kernel_rfl]; decide) (fun _ _ _ h hs => obj_ofB h hs) h hs
theorem call_ofB (h : DataW.trod enc Try.prog W 0 (fun _ => true) true fuel 50 cs = some x) (hs : Sz Try.prog 50 x.1) : ∃ y : Call, callR W (S0 W) cs y ∧ fkCall y ∧ cCall y ≤ 261 * bulk x.1 := by
  obtain ⟨hl, n', xs, hbk, hxl, hf'⟩ := trod_fieldsB sCall (by simp) h
  rw [cCalls] at hl
  match xs, hxl with
  | [ea, eb, ec, ed, ee, ef], _ =>
  simp only [bulks_cons, bulks_nil] at hbk
  have ba := bulk_pos ea.1
  obtain ⟨_, ra, y0, s0⟩ := hf' 0 _ _ rfl
  cases ra
  have bb := bulk_pos eb.1
  obtain ⟨_, rb, y1, s1⟩ := hf' 1 _ _ rfl
  cases rb
  have bc := bulk_pos ec.1
  obtain ⟨_, rc, y2, s2⟩ := hf' 2 _ _ rfl
  cases rc
  have bd := bulk_pos ed.1
  obtain ⟨_, rd, y3, s3⟩ := hf' 3 _ _ rfl
  cases rd
  have be := bulk_pos ee.1
  obtain ⟨_, re, y4, s4⟩ := hf' 4 _ _ rfl
  cases re
  have bf := bulk_pos ef.1
  obtain ⟨_, rf, y5, s5⟩ := hf' 5 _ _ rfl
  cases rf
  obtain ⟨z0, g0, b0⟩ := field_int uInt cellInt y0
  obtain ⟨z1, g1, b1⟩ := field_int uInt cellInt y1
  obtain ⟨z2, g2, b2⟩ := field_int uInt cellInt y2
  obtain ⟨v3, k3, g3, hv3, hf3, m3⟩ := vals_ofB y3 (s3 hs)
  rw [lVals] at g3
  obtain ⟨v4, k4, g4, hv4, hf4, m4⟩ := vals_ofB y4 (s4 hs)
  rw [lVals] at g4
  obtain ⟨z5, g5, b5⟩ := field_int uInt cellInt y5
  exact ⟨⟨z0, z1, z2, z5, k3, k4⟩, ⟨v3, v4, l6 hl g0 g1 g2 (cell_of_cut g3) (cell_of_cut g4) g5, hv3, hv4⟩, ⟨⟨wf64 b0, wf64 b1, wf64 b2, wf64 b5, fun y hy => (hf3 y hy).1, fun y hy => (hf4 y hy).1⟩, fun y hy => (hf3 y hy).2, fun y hy => (hf4 y hy).2⟩, by unfold cCall; dsimp only; omega⟩
theorem calls_ofB (h : DataW.trod enc Try.prog W 0 (fun _ => true) true fuel 46 cs = some x) (hs : Sz Try.prog 46 x.1) : ∃ v xs, cs = [v] ∧ LRep callR W (S0 W) v xs ∧ (∀ y ∈ xs, fkCall y) ∧ 261 + csum cCall xs ≤ 261 * bulk x.1 :=
  list_ofB callOk (by decide) uCalls cCalls (by rw [show Try.prog.bytesOf 50 = 80 by kernel_rfl]; decide) (fun _ _ _ h hs => call_ofB h hs) h hs
theorem thr_ofB (h : DataW.trod enc Try.prog W 0 (fun _ => true) true fuel 48 cs = some x) (hs : Sz Try.prog 48 x.1) : ∃ y : Thr, thrR W (S0 W) cs y ∧ fkThr y ∧ cThr y ≤ 261 * bulk x.1 := by
  obtain ⟨hl, n', xs, hbk, hxl, hf'⟩ := trod_fieldsB sThr (by simp) h
  rw [cThrs] at hl
  match xs, hxl with
  | [ea, eb, ec, ed], _ =>
  simp only [bulks_cons, bulks_nil] at hbk
  have ba := bulk_pos ea.1
  obtain ⟨_, ra, y0, s0⟩ := hf' 0 _ _ rfl
  cases ra
  have bb := bulk_pos eb.1
  obtain ⟨_, rb, y1, s1⟩ := hf' 1 _ _ rfl
  cases rb
  have bc := bulk_pos ec.1
  obtain ⟨_, rc, y2, s2⟩ := hf' 2 _ _ rfl
  cases rc
  have bd := bulk_pos ed.1
  obtain ⟨_, rd, y3, s3⟩ := hf' 3 _ _ rfl
  cases rd
  obtain ⟨z0, g0, b0⟩ := field_int uInt cellInt y0
  obtain ⟨v1, k1, g1, hv1, hf1, m1⟩ := calls_ofB y1 (s1 hs)
  rw [lCalls] at g1
  obtain ⟨z2, g2, b2⟩ := field_int uInt cellInt y2
  obtain ⟨z3, g3, b3⟩ := field_int uInt cellInt y3
  exact ⟨⟨z0, z2, z3, k1⟩, ⟨v1, l4 hl g0 (cell_of_cut g1) g2 g3, hv1⟩, ⟨⟨wf64 b0, wf64 b2, wf64 b3, fun y hy => (hf1 y hy).1⟩, fun y hy => (hf1 y hy).2⟩, by unfold cThr; dsimp only; omega⟩
theorem thrs_ofB (h : DataW.trod enc Try.prog W 0 (fun _ => true) true fuel 24 cs = some x) (hs : Sz Try.prog 24 x.1) : ∃ v xs, cs = [v] ∧ LRep thrR W (S0 W) v xs ∧ (∀ y ∈ xs, fkThr y) ∧ 261 + csum cThr xs ≤ 261 * bulk x.1 :=
  list_ofB thrOk (by decide) uThrs cThrs (by rw [show Try.prog.bytesOf 48 = 48 by kernel_rfl]; decide) (fun _ _ _ h hs => thr_ofB h hs) h hs
theorem mach_ofB (h : DataW.trod enc Try.prog W 0 (fun _ => true) true fuel 28 cs = some x) (hs : Sz Try.prog 28 x.1) : ∃ y : Mach, machR W (S0 W) cs y ∧ (fMach y ∧ kMach y) ∧ rMach y ≤ 261 * bulk x.1 := by
  obtain ⟨hl, n', xs, hbk, hxl, hf'⟩ := trod_fieldsB sMach (by simp) h
  rw [cMachs] at hl
  match xs, hxl with
  | [ea, eb, ec, ed, ee, ef, eg, eh, ei, ej], _ =>
  simp only [bulks_cons, bulks_nil] at hbk
  have ba := bulk_pos ea.1
  obtain ⟨_, ra, y0, s0⟩ := hf' 0 _ _ rfl
  cases ra
  have bb := bulk_pos eb.1
  obtain ⟨_, rb, y1, s1⟩ := hf' 1 _ _ rfl
  cases rb
  have bc := bulk_pos ec.1
  obtain ⟨_, rc, y2, s2⟩ := hf' 2 _ _ rfl
  cases rc
  have bd := bulk_pos ed.1
  obtain ⟨_, rd, y3, s3⟩ := hf' 3 _ _ rfl
  cases rd
  have be := bulk_pos ee.1
  obtain ⟨_, re, y4, s4⟩ := hf' 4 _ _ rfl
  cases re
  have bf := bulk_pos ef.1
  obtain ⟨_, rf, y5, s5⟩ := hf' 5 _ _ rfl
  cases rf
  have bg := bulk_pos eg.1
  obtain ⟨_, rg, y6, s6⟩ := hf' 6 _ _ rfl
  cases rg
  have bh := bulk_pos eh.1
  obtain ⟨_, rh, y7, s7⟩ := hf' 7 _ _ rfl
  cases rh
  have bi := bulk_pos ei.1
  obtain ⟨_, ri, y8, s8⟩ := hf' 8 _ _ rfl
  cases ri
  have bj := bulk_pos ej.1
  obtain ⟨_, rj, y9, s9⟩ := hf' 9 _ _ rfl
  cases rj
  obtain ⟨z0, g0, b0⟩ := field_int uInt cellInt y0
  obtain ⟨v1, k1, g1, hv1, hf1, m1⟩ := objs_ofB y1 (s1 hs)
  rw [lObjs] at g1
  obtain ⟨v2, k2, g2, hv2, hf2, m2⟩ := vals_ofB y2 (s2 hs)
  rw [lVals] at g2
  obtain ⟨v3, k3, g3, hv3, hf3, m3⟩ := thrs_ofB y3 (s3 hs)
  rw [lThrs] at g3
  obtain ⟨v4, k4, g4, hv4, hf4, m4⟩ := mons_ofB y4 (s4 hs)
  rw [lMons] at g4
  obtain ⟨z5, g5, b5⟩ := field_int uInt cellInt y5
  obtain ⟨v6, k6, g6, hv6, hf6, m6⟩ := ints_ofB y6 (s6 hs)
  rw [lInts] at g6
  obtain ⟨v7, k7, g7, hv7, hf7, m7⟩ := ints_ofB y7 (s7 hs)
  rw [lInts] at g7
  obtain ⟨z8, g8, b8⟩ := field_int uInt cellInt y8
  obtain ⟨z9, g9, b9⟩ := field_int uInt cellInt y9
  exact ⟨⟨z0, z5, z8, z9, k6, k7, k2, k1, k3, k4⟩, ⟨v1, v2, v3, v4, v6, v7, l10 hl g0 (cell_of_cut g1) (cell_of_cut g2) (cell_of_cut g3) (cell_of_cut g4) g5 (cell_of_cut g6) (cell_of_cut g7) g8 g9, hv1, hv2, hv3, hv4, hv6, hv7⟩, ⟨⟨wf64 b0, wf64 b5, wf64 b8, wf64 b9, hf6, hf7, fun y hy => (hf2 y hy).1, fun y hy => (hf1 y hy).1, fun y hy => (hf3 y hy).1, hf4⟩, fun y hy => (hf2 y hy).2, fun y hy => (hf1 y hy).2, fun y hy => (hf3 y hy).2⟩, by unfold rMach; dsimp only; omega⟩
end
theorem open_machB {H : Type} {enc : TypeId × Value → H} {r : Reach} {b0 : Nat} {v : Value} {d : DataW H} {ps : List MemPlace} {W : World}
    (hval : Value.okWide Try.prog W r b0 28 v) (hd : DataW.Trod enc Try.prog W 0 (fun _ => true) true 28 v d ps) (hsz : Sz Try.prog 28 d) (hb : Rows.uptoBulkAll [d] ≤ 1048576) :
    ∃ cs m, v = .agg (List.toArray cs) ∧ machR W (S0 W) cs m ∧ (fMach m ∧ kMach m ∧ rMach m ≤ 1000000000) := by
  obtain ⟨cs, rfl⟩ := okWide_agg (show isStructB Try.prog 28 = true by kernel_rfl) hval
  obtain ⟨fuel, hd⟩ := hd
  obtain ⟨m, hm, ⟨hf, hk⟩, hc⟩ := mach_ofB hd hsz
  have e1 : (Value.agg cs).cells = cs := rfl
  rw [e1] at hm
  refine ⟨cs.toList, m, rfl, hm, hf, hk, ?_⟩
  simp only [Rows.uptoBulkAll] at hb
  dsimp only at hc
  unfold bulk at hc
  omega
end Go.Proofs.Yteanhakkceancaa.Image
