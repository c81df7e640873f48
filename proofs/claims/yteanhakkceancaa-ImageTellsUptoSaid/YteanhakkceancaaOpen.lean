/- Arguments that are slices of structs, opened. -/
import Derived.Test.YteanhakkceancaaClose
namespace Go.Proofs.Yteanhakkceancaa.Eng
open Go Go.ChangeShapes Go.WideShapes Go.RowKit
section
variable {H : Type} {enc : TypeId × Value → H} {P : Program} {W : World} {base : Nat} {spare : Nat → Bool} {held : Bool} {fuel : Nat}
def isStructB (P : Program) (t : TypeId) : Bool := match P.underlying t with
  | some (.struct _) => true
  | _ => false
theorem okWide_agg {r : Reach} {b0 : Nat} {t : TypeId} {v : Value} (ht : isStructB P t = true) (h : Value.okWide P W r b0 t v) : ∃ cs, v = .agg cs := by
  unfold isStructB at ht
  split at ht
  · rename_i fs hu
    obtain ⟨cs, h, _⟩ := okWide_struct hu h
    exact ⟨cs, h⟩
  · cases ht
def structOf (P : Program) (e : TypeId) : List (TypeId × Nat) := match P.underlying e with
  | some (.struct fs) => fs.toList.map fun f => (f.type, f.offset)
  | _ => []
theorem trod_fields {e : TypeId} {cs : List Value} {x : DataW H × List MemPlace} {l : List (TypeId × Nat)} (hl : structOf P e = l) (hne : l ≠ []) (h : DataW.trod enc P W base spare held fuel e cs = some x) :
    cs.length = P.cellsOf e ∧ ∃ n, ∀ (i : Nat) t off, l[i]? = some (t, off) → ∃ y, DataW.trod enc P W base spare held n t ((cs.drop off).take (P.cellsOf t)) = some y := by
  unfold structOf at hl
  split at hl
  · rename_i fs hu
    obtain ⟨xs, n, _, _, hlen, hx, hf⟩ := DataW.trod_struct hu h
    refine ⟨hlen, n, fun i t off hi => ?_⟩
    rw [← hl, List.getElem?_map, Option.map_eq_some_iff] at hi
    obtain ⟨f, hf', e⟩ := hi
    simp only [Prod.mk.injEq] at e
    obtain ⟨rfl, rfl⟩ := e
    have hff : fs[i]? = some f := by simpa using hf'
    have := hf i f hff
    have hi' : i < xs.length := by rw [hx]; exact (Array.getElem?_eq_some_iff.1 hff).1
    exact ⟨xs[i], by rw [this, List.getElem?_eq_getElem hi']⟩
  · exact absurd hl.symm hne
/-- Each element of a slice is so many cells, as listed. -/
def Rows2 (w : World) (A : Option Addr) (sz : Nat) (css : List (List Value)) : Prop := ∀ (i : Nat) cs, css[i]? = some cs → cs.length = sz ∧ ∃ a, A = some a ∧ ∀ k u, cs[k]? = some u → w.cell? ((a.add (i * sz)).add k) = some u
theorem Rows2.at_ {w : World} {A : Option Addr} {sz : Nat} {css : List (List Value)} (h : Rows2 w A sz css) (i : Nat) (hi : i < css.length) : ∃ a, A = some a ∧ ∀ k u, css[i][k]? = some u → w.cell? ((a.add (i * sz)).add k) = some u :=
  (h i _ (List.getElem?_eq_getElem hi)).2
theorem trod_elems {t e : TypeId} {cs : List Value} {x : DataW H × List MemPlace} (ht : P.underlying t = some (.slice e)) (h : DataW.trod enc P W base spare held fuel t cs = some x) :
    ∃ A n c css m, cs = [.slice A n c] ∧ n = List.length css ∧ n ≤ c ∧ c ≤ 9223372036854775807 ∧ Rows2 W A (P.cellsOf e) css ∧ ∀ (i : Nat) d, css[i]? = some d → ∃ y, DataW.trod enc P W base spare held m e d = some y := by
  rcases DataW.trod_slice ht h with ⟨h0, _⟩ | ⟨a, len, cap, elems, rest, n, _, hcs, _, hb, hl, hm, hlen, hel, _⟩
  · exact ⟨none, 0, 0, [], 0, h0, rfl, Nat.le_refl _, by omega, fun i cs hi => by simp at hi, fun i d hi => by simp at hi⟩
  · have each : ∀ i, i < len → ∃ d y, W.cells? base (a.add (i * P.cellsOf e)) (P.cellsOf e) = some d ∧ DataW.trod enc P W base spare held n e d = some y := by
      intro i hi
      have := hel i hi
      rw [List.getElem?_eq_getElem (by omega), Option.bind_eq_some_iff] at this
      obtain ⟨d, h1, h2⟩ := this
      exact ⟨d, _, h1, h2⟩
    have hlist : ∀ m, m ≤ len → ∃ css : List (List Value), css.length = m ∧ ∀ i d, css[i]? = some d → ∃ y, W.cells? base (a.add (i * P.cellsOf e)) (P.cellsOf e) = some d ∧ DataW.trod enc P W base spare held n e d = some y := by
      intro m
      induction m with
      | zero => exact fun _ => ⟨[], rfl, fun i d hi => by simp at hi⟩
      | succ m ih =>
        intro hm
        obtain ⟨css, hlc, hc⟩ := ih (by omega)
        obtain ⟨d, y, h1, h2⟩ := each m (by omega)
        refine ⟨css ++ [d], by simp [hlc], fun i d' hi => ?_⟩
        by_cases him : i < m
        · rw [List.getElem?_append_left (by omega)] at hi
          exact hc i d' hi
        · have hi2 : i = m := by
            have := (List.getElem?_eq_some_iff.1 hi).1
            simp at this
            omega
          subst hi2
          rw [List.getElem?_append_right (by omega), hlc, Nat.sub_self] at hi
          simp only [List.getElem?_cons_zero, Option.some.injEq] at hi
          subst hi
          exact ⟨y, h1, h2⟩
    obtain ⟨css, hlc, hc⟩ := hlist len (Nat.le_refl _)
    refine ⟨some a, len, cap, css, n, hcs, hlc.symm, hl, by unfold maxLen at hm; omega, ?_, ?_⟩
    · intro i d hi
      obtain ⟨y, h1, _⟩ := hc i d hi
      obtain ⟨_, h3, h4⟩ := World.cells?_some h1
      refine ⟨h3, a, rfl, fun k u hu => ?_⟩
      rw [h4 k (by rw [← h3]; exact (List.getElem?_eq_some_iff.1 hu).1), hu]
    · intro i d hi
      obtain ⟨y, _, h2⟩ := hc i d hi
      exact ⟨y, h2⟩
/-- A field that is a number. -/
theorem field_int {t : TypeId} {k : IntKind} {cs : List Value} {off : Nat} {y : DataW H × List MemPlace} (ht : P.underlying t = some (.int k)) (hc : P.cellsOf t = 1) (h : DataW.trod enc P W base spare held fuel t ((cs.drop off).take (P.cellsOf t)) = some y) :
    ∃ z, cs[off]? = some (.int k z) ∧ (Lit.int k z).wf = true := by
  obtain ⟨n, h1, _, hw⟩ := DataW.trod_int ht h
  rw [hc] at h1
  exact ⟨n, cell_of_cut h1, hw⟩
theorem field_bool {t : TypeId} {cs : List Value} {off : Nat} {y : DataW H × List MemPlace} (ht : P.underlying t = some .bool) (hc : P.cellsOf t = 1) (h : DataW.trod enc P W base spare held fuel t ((cs.drop off).take (P.cellsOf t)) = some y) :
    ∃ b, cs[off]? = some (.bool b) := by
  obtain ⟨n, h1, _⟩ := DataW.trod_bool ht h
  rw [hc] at h1
  exact ⟨n, cell_of_cut h1⟩
theorem field_string {t : TypeId} {cs : List Value} {off : Nat} {y : DataW H × List MemPlace} (ht : P.underlying t = some .string) (hc : P.cellsOf t = 1) (h : DataW.trod enc P W base spare held fuel t ((cs.drop off).take (P.cellsOf t)) = some y) :
    ∃ s, cs[off]? = some (.string s) ∧ s.size ≤ 9223372036854775807 := by
  obtain ⟨n, h1, _, hm⟩ := DataW.trod_string ht h
  rw [hc] at h1
  exact ⟨n, cell_of_cut h1, by unfold maxLen at hm; omega⟩
theorem field_i64s {t e : TypeId} {cs : List Value} {off : Nat} {y : DataW H × List MemPlace} (ht : P.underlying t = some (.slice e)) (he : P.underlying e = some (.int .i64)) (hce : P.cellsOf e = 1) (hc : P.cellsOf t = 1) (h : DataW.trod enc P W 0 (fun _ => true) held fuel t ((cs.drop off).take (P.cellsOf t)) = some y) :
    ∃ A n c zs, cs[off]? = some (.slice A n c) ∧ n = List.length zs ∧ n ≤ c ∧ c ≤ 9223372036854775807 ∧ Row W A (ivs zs) ∧ ∀ z ∈ zs, -9223372036854775808 ≤ z ∧ z ≤ 9223372036854775807 := by
  rw [hc] at h
  rcases open_ints ht he hce h with ⟨hcs, hx⟩ | ⟨a, len, cap, zs, hcs, _, hl, hm, hz, hx, hcell, hwz⟩
  · exact ⟨none, 0, 0, [], cell_of_cut hcs, rfl, Nat.le_refl _, by omega, Row.nil _ _, by simp⟩
  · simp only [if_true] at hz
    refine ⟨some a, len, cap, zs.take len, cell_of_cut hcs, by simp; omega, hl, by unfold maxLen at hm; omega, ?_, ?_⟩
    · intro j u hu
      simp only [ivs, List.getElem?_map, Option.map_eq_some_iff] at hu
      obtain ⟨z, hz', rfl⟩ := hu
      rw [List.getElem?_take] at hz'
      split at hz'
      · obtain ⟨hj, rfl⟩ := List.getElem?_eq_some_iff.1 hz'
        refine ⟨a, rfl, ?_⟩
        rw [hcell j hj, List.getD_eq_getElem?_getD, List.getElem?_eq_getElem hj]
        rfl
      · cases hz'
    · intro z hz
      have hw := hwz _ (List.mem_of_mem_take hz)
      simp [Lit.wf, IntKind.min, IntKind.max, IntKind.signed, IntKind.bits] at hw
      omega
theorem field_u8s {t e : TypeId} {cs : List Value} {off : Nat} {y : DataW H × List MemPlace} (ht : P.underlying t = some (.slice e)) (he : P.underlying e = some (.int .u8)) (hce : P.cellsOf e = 1) (hc : P.cellsOf t = 1) (h : DataW.trod enc P W 0 (fun _ => true) held fuel t ((cs.drop off).take (P.cellsOf t)) = some y) :
    ∃ A n c bs, cs[off]? = some (.slice A n c) ∧ n = List.length bs ∧ n ≤ c ∧ c ≤ 9223372036854775807 ∧ Row W A (bvs bs) := by
  rw [hc] at h
  rcases open_ints ht he hce h with ⟨hcs, hx⟩ | ⟨a, len, cap, zs, hcs, _, hl, hm, hz, hx, hcell, hwz⟩
  · exact ⟨none, 0, 0, [], cell_of_cut hcs, rfl, Nat.le_refl _, by omega, Row.nil _ _⟩
  · simp only [if_true] at hz
    refine ⟨some a, len, cap, (zs.take len).map (fun z => UInt8.ofNat z.toNat), cell_of_cut hcs, by simp; omega, hl, by unfold maxLen at hm; omega, ?_⟩
    intro j u hu
    simp only [bvs, List.map_map, List.getElem?_map, Option.map_eq_some_iff] at hu
    obtain ⟨z, hz', rfl⟩ := hu
    rw [List.getElem?_take] at hz'
    split at hz'
    · obtain ⟨hj, rfl⟩ := List.getElem?_eq_some_iff.1 hz'
      refine ⟨a, rfl, ?_⟩
      rw [hcell j hj, List.getD_eq_getElem?_getD, List.getElem?_eq_getElem hj]
      have hw := hwz _ (List.getElem_mem hj)
      simp [Lit.wf, IntKind.min, IntKind.max, IntKind.signed, IntKind.bits] at hw
      simp only [Option.getD_some, Function.comp_apply, bv, UInt8.toNat_ofNat']
      congr 2
      omega
    · cases hz'
/-- A list that is made of what is known of each member. -/
theorem each_of {α β : Type} {Q : α → β → Prop} : ∀ {l : List α}, (∀ (i : Nat) x, l[i]? = some x → ∃ y, Q x y) → ∃ r : List β, r.length = l.length ∧ ∀ (i : Nat) x, l[i]? = some x → ∃ y, r[i]? = some y ∧ Q x y
  | [], _ => ⟨[], rfl, fun i x h => by simp at h⟩
  | a :: l, h => by
    obtain ⟨y, hy⟩ := h 0 a rfl
    obtain ⟨r, hl, hr⟩ := each_of (l := l) (Q := Q) fun i x hx => h (i + 1) x (by simpa using hx)
    refine ⟨y :: r, by simp [hl], fun i x hx => ?_⟩
    cases i with
    | zero =>
      simp only [List.getElem?_cons_zero, Option.some.injEq] at hx
      subst hx
      exact ⟨y, rfl, hy⟩
    | succ i =>
      obtain ⟨y', h1, h2⟩ := hr i x (by simpa using hx)
      exact ⟨y', by simpa using h1, h2⟩
end
end Go.Proofs.Yteanhakkceancaa.Eng
