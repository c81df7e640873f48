/- Structs and arrays, loaded and stored as a whole; cuts in the midst of a walk. -/
import Derived.Test.YteanhakkceancaaMem2
namespace Go.Proofs.Yteanhakkceancaa.Eng
open Go
theorem add_lit0 (g j i : Nat) : (⟨g, j, none⟩ : Addr).add i = ⟨g, j + i, none⟩ := Addr.add_lit g j i
theorem loadN_aux {w : World} {a : Addr} {K : List Value → Prop} : ∀ (rest acc : List Value), (∀ k u, rest[k]? = some u → w.cell? (a.add (acc.length + k)) = some u) → K (acc ++ rest) → loadN w a rest.length acc.length acc K
  | [], acc, _, hk => by
    rw [List.append_nil] at hk
    exact hk
  | v :: r, acc, h, hk => by
    refine ⟨v, h 0 v rfl, ?_⟩
    have e : acc.length + 1 = (acc ++ [v]).length := by simp
    have := loadN_aux (w := w) (a := a) (K := K) r (acc ++ [v]) (fun k u hu => by
      have := h (k + 1) u (by simpa using hu)
      rw [← e, Nat.add_assoc, Nat.add_comm 1 k]
      exact this) (by simpa using hk)
    rw [← e] at this
    exact this
/-- Cells that are known, loaded. -/
theorem loadN_row {w : World} {a : Addr} {vs : List Value} {n : Nat} {K : List Value → Prop} (h : ∀ k u, vs[k]? = some u → w.cell? (a.add k) = some u) (hn : vs.length = n) (hk : K vs) : loadN w a n 0 [] K := by
  subst hn
  exact loadN_aux (w := w) (a := a) (K := K) vs [] (fun k u hu => by simpa using h k u hu) hk
theorem splice (l : List Value) (p : Nat) (v : Value) (r : List Value) (h : p < l.length) : (l.set p v).take (p + 1) ++ r ++ (l.set p v).drop (p + 1 + r.length) = l.take p ++ v :: r ++ l.drop (p + (r.length + 1)) := by
  have e : l.set p v = l.take p ++ v :: l.drop (p + 1) := by rw [List.set_eq_take_append_cons_drop, if_pos h]
  have hl : (l.take p).length = p := by rw [List.length_take]; omega
  have e1 : (l.set p v).take (p + 1) = l.take p ++ [v] := by
    rw [e, List.take_append, hl]
    rw [List.take_of_length_le (by omega), Nat.add_sub_cancel_left]
    rfl
  have e2 : (l.set p v).drop (p + 1 + r.length) = l.drop (p + (r.length + 1)) := by
    rw [List.drop_set_of_lt (by omega)]
    congr 1
    omega
  rw [e1, e2]
  simp
theorem storeN_aux {g j : Nat} {t : TypeId} {K : World → Prop} : ∀ (vs : List Value) (i : Nat) (w : World) (arr : Array Value), w.heap[g]? = some (.cells arr t (0, 0)) → j + i + vs.length ≤ arr.size → (∀ v ∈ vs, v.oneCell' = true) →
    (∀ w', w'.heap[g]? = some (.cells (arr.toList.take (j + i) ++ vs ++ arr.toList.drop (j + i + vs.length)).toArray t (0, 0)) → Mod (fun k => k = g) w w' → w'.heap.size = w.heap.size → K w') → storeN ⟨g, j, none⟩ vs i w K
  | [], i, w, arr, hg, hb, h1, hk => by
    refine hk w ?_ (Mod.refl _ _) rfl
    simp [hg]
  | v :: r, i, w, arr, hg, hb, h1, hk => by
    simp only [List.length_cons] at hb
    have ea := add_lit0 g j i
    have hs := heap_setCell_same w g (j + i) arr t v hg
    refine ⟨⟨arr[j + i]'(by omega), ?_⟩, ?_, h1 v List.mem_cons_self, force_ ?_⟩
    · rw [ea, cell_of_row _ _ _ _ _ _ hg, Array.getElem?_eq_getElem]
    · rw [ea]
      exact frozen_of_row _ _ _ _ _ hg
    · rw [ea]
      refine storeN_aux r (i + 1) _ _ hs (by rw [Array.size_setIfInBounds]; omega) (fun u hu => h1 u (List.mem_cons_of_mem _ hu)) fun w' h2 m hsz => ?_
      refine hk w' ?_ (Mod.trans (Mod.set w ⟨g, j + i, none⟩ v) m fun _ _ h => h) (hsz.trans (by simp))
      rw [h2, Array.toList_setIfInBounds, ← Nat.add_assoc, splice _ _ _ _ (by simpa using (by omega : j + i < arr.size))]
      simp only [List.length_cons, Nat.add_assoc]
/-- Cells stored one behind the other into a block. -/
theorem storeN_row {g j : Nat} {t : TypeId} {K : World → Prop} {vs : List Value} {w : World} {arr : Array Value} (hg : w.heap[g]? = some (.cells arr t (0, 0))) (hb : j + vs.length ≤ arr.size) (h1 : ∀ v ∈ vs, v.oneCell' = true)
    (hk : ∀ w', w'.heap[g]? = some (.cells (arr.toList.take j ++ vs ++ arr.toList.drop (j + vs.length)).toArray t (0, 0)) → Mod (fun k => k = g) w w' → w'.heap.size = w.heap.size → K w') : storeN ⟨g, j, none⟩ vs 0 w K :=
  storeN_aux vs 0 w arr hg hb h1 hk
/-- A block that is stored whole. -/
theorem storeN_all {g : Nat} {t : TypeId} {K : World → Prop} {vs : List Value} {w : World} {arr : Array Value} (hg : w.heap[g]? = some (.cells arr t (0, 0))) (hb : vs.length = arr.size) (h1 : ∀ v ∈ vs, v.oneCell' = true)
    (hk : ∀ w', w'.heap[g]? = some (.cells vs.toArray t (0, 0)) → Mod (fun k => k = g) w w' → w'.heap.size = w.heap.size → K w') : storeN ⟨g, 0, none⟩ vs 0 w K :=
  storeN_row hg (by omega) h1 fun w' h m hs => hk w' (by
    rw [h, List.take_zero, List.nil_append, List.drop_eq_nil_of_le (by simp; omega), List.append_nil]) m hs

theorem thenF_ {next : Fr → World → Prop} {Q : Exit → Fr → World → Prop} {fr : Fr} {w : World} (h : next fr w) : thenF next Q .normal fr w := h
theorem skip_ {P : Program} {T : Tab} {F : FuncId → Bool} {n : Nat} {Q : Exit → Fr → World → Prop} {fr : Fr} {w : World} (h : Q .normal fr w) : den P T F n .skip Q fr w := h
theorem seq_ {P : Program} {T : Tab} {F : FuncId → Bool} {n : Nat} {a b : Code} {Q : Exit → Fr → World → Prop} {fr : Fr} {w : World} (h : den P T F n a (thenF (fun fr w => den P T F n b Q fr w) Q) fr w) : den P T F n (.seq a b) Q fr w := h
theorem block_ {P : Program} {T : Tab} {F : FuncId → Bool} {n i : Nat} {c : Code} {Q : Exit → Fr → World → Prop} {fr : Fr} {w : World} (h : den P T F n c (blockF i Q) fr w) : den P T F n (.block i c) Q fr w := h
theorem region_ {P : Program} {T : Tab} {F : FuncId → Bool} {n i : Nat} {ops : Array Oper} {Q : Exit → Fr → World → Prop} {fr : Fr} {w : World} (h : evOps P T F ops (Q .normal) ops.toList fr w) : den P T F n (.region i ops false) Q fr w := h
theorem ops_cut {σ : Type} {P : Program} {T : Tab} {F : FuncId → Bool} {ops : Array Oper} {Q : Fr → World → Prop} {l : List Oper} {fr : Fr} {w : World} (L : σ → List (Nat × Value)) (J : σ → World → Prop)
    (h2 : ∀ s w fr0, J s w → Q (upds fr0 (L s)) w) (h1 : ∀ K : Fr → World → Prop, (∀ s fr' w', Slots fr' (L s) → J s w' → K fr' w') → evOps P T F ops K l fr w) : evOps P T F ops Q l fr w :=
  h1 Q fun s fr' w' hs hj => by rw [upds_self hs]; exact h2 s w' fr' hj
end Go.Proofs.Yteanhakkceancaa.Eng
