/- Arguments that are slices of structs, opened, with how much they weigh. -/
import Derived.Test.YteanhakkceancaaOpen
import Derived.SizedLaws
namespace Go.Proofs.Yteanhakkceancaa.Eng
open Go Go.ChangeShapes Go.WideShapes Go.RowKit
section
variable {H : Type} {enc : TypeId × Value → H} {P : Program} {W : World} {base : Nat} {spare : Nat → Bool} {held : Bool} {fuel : Nat}
/-- What one has in hand weighs no more than a machine reaches. -/
def Sz (P : Program) (t : TypeId) (d : DataW H) : Prop := ∀ N ∈ d.weights P t, N ≤ reachBytes
theorem sz_all {e : TypeId} : ∀ {ds : List (DataW H)} {N : Nat} {d : DataW H}, d ∈ ds → N ∈ d.weights P e → N ∈ DataW.weightsAll P e ds
  | a :: r, N, d, hd, hN => by
    unfold DataW.weightsAll
    rcases List.mem_cons.1 hd with rfl | hd
    · exact List.mem_append_left _ hN
    · exact List.mem_append_right _ (sz_all hd hN)
  | [], _, _, hd, _ => by cases hd
theorem sz_slice {t e : TypeId} (ht : P.underlying t = some (.slice e)) {el sp : List (DataW H)} (h : Sz P t (.slice el sp)) : (el.length + sp.length) * P.bytesOf e ≤ reachBytes ∧ ∀ d ∈ el, Sz P e d := by
  refine ⟨h _ (by simp [DataW.weights, ht]), fun d hd N hN => h N ?_⟩
  simp only [DataW.weights, ht, List.mem_cons, List.mem_append]
  exact .inr (.inl (sz_all hd hN))
theorem trod_elemsW {t e : TypeId} {cs : List Value} {x : DataW H × List MemPlace} (ht : P.underlying t = some (.slice e)) (h : DataW.trod enc P W base spare held fuel t cs = some x) :
    ∃ A n c css m, cs = [.slice A n c] ∧ n = List.length css ∧ n ≤ c ∧ c ≤ 9223372036854775807 ∧ Rows2 W A (P.cellsOf e) css ∧ (Sz P t x.1 → n * P.bytesOf e ≤ reachBytes) ∧ ∀ (i : Nat) d, css[i]? = some d → ∃ y, DataW.trod enc P W base spare held m e d = some y ∧ (Sz P t x.1 → Sz P e y.1) := by
  rcases DataW.trod_slice ht h with ⟨h0, _⟩ | ⟨a, len, cap, elems, rest, n, _, hcs, hx, hb, hl, hm, hlen, hel, _⟩
  · exact ⟨none, 0, 0, [], 0, h0, rfl, Nat.le_refl _, by omega, fun i cs hi => by simp at hi, fun _ => by simp, fun i d hi => by simp at hi⟩
  · have hsz : Sz P t x.1 → Sz P t (.slice (elems.map (·.1)) (rest.map (·.1))) := by rw [hx]; exact id
    have each : ∀ i, i < len → ∃ d y, W.cells? base (a.add (i * P.cellsOf e)) (P.cellsOf e) = some d ∧ DataW.trod enc P W base spare held n e d = some y ∧ (Sz P t x.1 → Sz P e y.1) := by
      intro i hi
      have := hel i hi
      rw [List.getElem?_eq_getElem (by omega), Option.bind_eq_some_iff] at this
      obtain ⟨d, h1, h2⟩ := this
      exact ⟨d, _, h1, h2, fun hs => (sz_slice ht (hsz hs)).2 _ (List.mem_map.2 ⟨_, List.getElem_mem _, rfl⟩)⟩
    have hlist : ∀ m, m ≤ len → ∃ css : List (List Value), css.length = m ∧ ∀ i d, css[i]? = some d → ∃ y, W.cells? base (a.add (i * P.cellsOf e)) (P.cellsOf e) = some d ∧ DataW.trod enc P W base spare held n e d = some y ∧ (Sz P t x.1 → Sz P e y.1) := by
      intro m
      induction m with
      | zero => exact fun _ => ⟨[], rfl, fun i d hi => by simp at hi⟩
      | succ m ih =>
        intro hm
        obtain ⟨css, hlc, hc⟩ := ih (by omega)
        obtain ⟨d, y, h1, h2⟩ := each m (by omega)
        refine ⟨css ++ [d], by simp [hlc], fun i d' hi => ?_⟩
        by_cases him : i < m
        · rw [List.getElem?_append_left (by omega)] at hi
          exact hc i d' hi
        · have hi2 : i = m := by
            have := (List.getElem?_eq_some_iff.1 hi).1
            simp at this
            omega
          subst hi2
          rw [List.getElem?_append_right (by omega), hlc, Nat.sub_self] at hi
          simp only [List.getElem?_cons_zero, Option.some.injEq] at hi
          subst hi
          exact ⟨y, h1, h2⟩
    obtain ⟨css, hlc, hc⟩ := hlist len (Nat.le_refl _)
    refine ⟨some a, len, cap, css, n, hcs, hlc.symm, hl, by unfold maxLen at hm; omega, ?_, ?_, ?_⟩
    · intro i d hi
      obtain ⟨y, h1, _⟩ := hc i d hi
      obtain ⟨_, h3, h4⟩ := World.cells?_some h1
      refine ⟨h3, a, rfl, fun k u hu => ?_⟩
      rw [h4 k (by rw [← h3]; exact (List.getElem?_eq_some_iff.1 hu).1), hu]
    · intro hs
      have := (sz_slice ht (hsz hs)).1
      rw [List.length_map, hlen] at this
      exact Nat.le_trans (Nat.mul_le_mul_right _ (by omega)) this
    · intro i d hi
      obtain ⟨y, _, h2⟩ := hc i d hi
      exact ⟨y, h2⟩
theorem trod_fieldsW {e : TypeId} {cs : List Value} {x : DataW H × List MemPlace} {l : List (TypeId × Nat)} (hl : structOf P e = l) (hne : l ≠ []) (h : DataW.trod enc P W base spare held fuel e cs = some x) :
    cs.length = P.cellsOf e ∧ ∃ n, ∀ (i : Nat) t off, l[i]? = some (t, off) → ∃ y, DataW.trod enc P W base spare held n t ((cs.drop off).take (P.cellsOf t)) = some y ∧ (Sz P e x.1 → Sz P t y.1) := by
  unfold structOf at hl
  split at hl
  · rename_i fs hu
    obtain ⟨xs, n, _, hxx, hlen, hx, hf⟩ := DataW.trod_struct hu h
    refine ⟨hlen, n, fun i t off hi => ?_⟩
    rw [← hl, List.getElem?_map, Option.map_eq_some_iff] at hi
    obtain ⟨f, hf', e⟩ := hi
    simp only [Prod.mk.injEq] at e
    obtain ⟨rfl, rfl⟩ := e
    have hff : fs[i]? = some f := by simpa using hf'
    have := hf i f hff
    have hi' : i < xs.length := by rw [hx]; exact (Array.getElem?_eq_some_iff.1 hff).1
    refine ⟨xs[i], by rw [this, List.getElem?_eq_getElem hi'], fun hs N hN => hs N ?_⟩
    rw [hxx]
    simp only [DataW.weights, hu]
    exact DataW.weights_mem_each (j := i) (by rw [List.getElem?_map, hf']; rfl) (by rw [List.getElem?_map, List.getElem?_eq_getElem hi']; rfl) N hN
  · exact absurd hl.symm hne
/-- A field that is a slice of numbers weighs what it has. -/
theorem field_size {t e : TypeId} {k : IntKind} {cs : List Value} {off : Nat} {y : DataW H × List MemPlace} (ht : P.underlying t = some (.slice e)) (he : P.underlying e = some (.int k)) (hce : P.cellsOf e = 1) (hc : P.cellsOf t = 1) (h : DataW.trod enc P W 0 (fun _ => true) held fuel t ((cs.drop off).take (P.cellsOf t)) = some y) (hs : Sz P t y.1) :
    ∀ A n c, cs[off]? = some (.slice A n c) → n * P.bytesOf e ≤ reachBytes := by
  rw [hc] at h
  intro A n c hA
  rcases open_ints ht he hce h with ⟨hcs, hx⟩ | ⟨a, len, cap, zs, hcs, _, hl, hm, hz, hx, hcell, hwz⟩
  · have := cell_of_cut hcs
    rw [hA] at this
    cases this
    simp
  · have := cell_of_cut hcs
    rw [hA] at this
    cases this
    simp only [if_true] at hz
    rw [hx] at hs
    have := (sz_slice ht hs).1
    simp only [lits, List.length_map, List.length_take, List.length_drop] at this
    exact Nat.le_trans (Nat.mul_le_mul_right _ (by omega)) this
end
end Go.Proofs.Yteanhakkceancaa.Eng
