/- Rows of structs: cell by cell, and struct by struct. -/
import Derived.Test.YteanhakkceancaaOpen
namespace Go.Proofs.Yteanhakkceancaa.Eng
open Go
theorem flat_split {sz : Nat} : ∀ (css : List (List Value)) (j : Nat) (u : Value), (∀ cs ∈ css, cs.length = sz) → css.flatten[j]? = some u → ∃ (i k : Nat) (cs : List Value), css[i]? = some cs ∧ cs[k]? = some u ∧ j = i * sz + k
  | [], j, u, _, h => by simp at h
  | c :: r, j, u, hl, h => by
    have hc := hl c List.mem_cons_self
    rw [List.flatten_cons] at h
    by_cases hj : j < sz
    · rw [List.getElem?_append_left (by omega)] at h
      exact ⟨0, j, c, rfl, h, by omega⟩
    · rw [List.getElem?_append_right (by omega)] at h
      obtain ⟨i, k, cs, h1, h2, h3⟩ := flat_split r (j - c.length) u (fun cs hcs => hl cs (List.mem_cons_of_mem _ hcs)) h
      refine ⟨i + 1, k, cs, h1, h2, ?_⟩
      rw [Nat.add_mul, Nat.one_mul]
      omega
theorem flat_join {sz : Nat} : ∀ (css : List (List Value)) (i k : Nat) (cs : List Value) (u : Value), (∀ cs ∈ css, cs.length = sz) → css[i]? = some cs → cs[k]? = some u → css.flatten[i * sz + k]? = some u
  | [], i, k, cs, u, _, h, _ => by simp at h
  | c :: r, 0, k, cs, u, hl, h, hk => by
    simp at h
    subst h
    rw [Nat.zero_mul, Nat.zero_add, List.flatten_cons, List.getElem?_append_left (List.getElem?_eq_some_iff.1 hk).1]
    exact hk
  | c :: r, i + 1, k, cs, u, hl, h, hk => by
    have hc := hl c List.mem_cons_self
    rw [List.flatten_cons, Nat.add_mul, Nat.one_mul, List.getElem?_append_right (by omega)]
    have := flat_join r i k cs u (fun cs hcs => hl cs (List.mem_cons_of_mem _ hcs)) h hk
    rw [show i * sz + sz + k - c.length = i * sz + k by omega]
    exact this
theorem rows2_of_row {w : World} {A : Option Addr} {sz : Nat} {css : List (List Value)} (hl : ∀ cs ∈ css, cs.length = sz) (hs : 0 < sz) (h : Row w A css.flatten) : Rows2 w A sz css := by
  intro i cs hi
  have hc := hl cs (List.mem_of_getElem? hi)
  have h0 : ∃ u, cs[0]? = some u := ⟨cs[0]'(by omega), List.getElem?_eq_getElem (by omega)⟩
  obtain ⟨u0, hu0⟩ := h0
  obtain ⟨a, rfl, _⟩ := h _ _ (flat_join css i 0 cs u0 hl hi hu0)
  refine ⟨hc, a, rfl, fun k u hu => ?_⟩
  obtain ⟨a', he, hcell⟩ := h _ _ (flat_join css i k cs u hl hi hu)
  cases he
  rw [add_add_]
  exact hcell
theorem row_of_rows2 {w : World} {A : Option Addr} {sz : Nat} {css : List (List Value)} (h : Rows2 w A sz css) : Row w A css.flatten := by
  intro j u hj
  obtain ⟨i, k, cs, h1, h2, rfl⟩ := flat_split (sz := sz) css j u (fun cs hcs => by
    obtain ⟨i, hi, rfl⟩ := List.getElem_of_mem hcs
    exact (h i _ (List.getElem?_eq_getElem hi)).1) hj
  obtain ⟨_, a, ha, hc⟩ := h i cs h1
  refine ⟨a, ha, ?_⟩
  have := hc k u h2
  rwa [add_add_] at this
theorem Rows2.new {w w' : World} {A : Option Addr} {sz : Nat} {css : List (List Value)} (h : Rows2 w A sz css) (n : New w w') : Rows2 w' A sz css := fun i cs hi => by
  obtain ⟨h1, a, h2, h3⟩ := h i cs hi
  exact ⟨h1, a, h2, fun k u hu => n.cell (h3 k u hu)⟩
theorem Rows2.take {w : World} {A : Option Addr} {sz : Nat} {css : List (List Value)} (h : Rows2 w A sz css) (k : Nat) : Rows2 w A sz (css.take k) := by
  intro i cs hi
  rw [List.getElem?_take] at hi
  split at hi
  · exact h i cs hi
  · cases hi
end Go.Proofs.Yteanhakkceancaa.Eng
