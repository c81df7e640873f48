/- Blocks that are known whole: loaded, stored, made. -/
import Derived.Test.YteanhakkceancaaMem3
namespace Go.Proofs.Yteanhakkceancaa.Eng
open Go
theorem addB (g j : Nat) : (⟨g, 0, none⟩ : Addr).add j = ⟨g, j, none⟩ := by rw [Addr.add_lit, Nat.zero_add]
theorem cellB {w : World} {g j : Nat} {arr : Array Value} {t : TypeId} {fz : Nat × Nat} {v : Value} (hb : w.heap[g]? = some (.cells arr t fz)) (h : arr[j]? = some v) : w.cell? ((⟨g, 0, none⟩ : Addr).add j) = some v := by
  rw [addB, cell_of_row _ _ j _ _ _ hb]
  exact h
theorem cellB0 {w : World} {g j : Nat} {arr : Array Value} {t : TypeId} {fz : Nat × Nat} {v : Value} (hb : w.heap[g]? = some (.cells arr t fz)) (h : arr[j]? = some v) : w.cell? (⟨g, j, none⟩ : Addr) = some v := by
  rw [← addB]
  exact cellB hb h
theorem rowB {w : World} {g : Nat} {vs : List Value} {t : TypeId} {fz : Nat × Nat} (hb : w.heap[g]? = some (.cells vs.toArray t fz)) : ∀ k u, vs[k]? = some u → w.cell? ((⟨g, 0, none⟩ : Addr).add k) = some u := fun k u hu => cellB hb (by simpa using hu)
theorem stB {w : World} {g j : Nat} {arr : Array Value} {t : TypeId} {v : Value} {K : World → Prop} (hb : w.heap[g]? = some (.cells arr t (0, 0))) (hj : j < arr.size)
    (k : ∀ w', w'.heap[g]? = some (.cells (arr.setIfInBounds j v) t (0, 0)) → Mod (fun b => b = g) w w' → w'.heap.size = w.heap.size → K w') :
    (∃ u, w.cell? ((⟨g, 0, none⟩ : Addr).add j) = some u) ∧ w.frozen? ((⟨g, 0, none⟩ : Addr).add j) = false ∧ K (w.setCell ((⟨g, 0, none⟩ : Addr).add j) v) := by
  rw [addB]
  refine ⟨⟨arr[j], ?_⟩, frozen_of_row w g j _ _ hb, k _ (heap_setCell_same w g j _ _ v hb) (Mod.set w ⟨g, j, none⟩ v) (by simp)⟩
  rw [cell_of_row _ _ j _ _ _ hb, Array.getElem?_eq_getElem hj]
theorem stB0 {w : World} {g j : Nat} {arr : Array Value} {t : TypeId} {v : Value} {K : World → Prop} (hb : w.heap[g]? = some (.cells arr t (0, 0))) (hj : j < arr.size)
    (k : ∀ w', w'.heap[g]? = some (.cells (arr.setIfInBounds j v) t (0, 0)) → Mod (fun b => b = g) w w' → w'.heap.size = w.heap.size → K w') :
    (∃ u, w.cell? (⟨g, j, none⟩ : Addr) = some u) ∧ w.frozen? (⟨g, j, none⟩ : Addr) = false ∧ K (w.setCell (⟨g, j, none⟩ : Addr) v) := by
  have h := stB (K := K) hb hj k
  rw [addB] at h
  exact h
theorem fzB {w : World} {g : Nat} {arr : Array Value} {t : TypeId} (hb : w.heap[g]? = some (.cells arr t (0, 0))) (j : Nat) : w.frozen? ((⟨g, 0, none⟩ : Addr).add j) = false := by
  rw [addB]
  exact frozen_of_row w g j _ _ hb
theorem stK {w : World} {g j : Nat} {arr : Array Value} {t : TypeId} {v : Value} {K : World → Prop} (hb : w.heap[g]? = some (.cells arr t (0, 0))) (hj : j < arr.size)
    (k : ∀ w', w'.heap[g]? = some (.cells (arr.setIfInBounds j v) t (0, 0)) → Mod (fun b => b = g) w w' → w'.heap.size = w.heap.size → K w') : K (w.setCell ((⟨g, 0, none⟩ : Addr).add j) v) := (stB hb hj k).2.2
/-- What is newer than the beginning may be stored into. -/
theorem New.st {w0 w w' : World} {g : Nat} (n : New w0 w) (m : Mod (fun b => b = g) w w') (h : w0.heap.size ≤ g) : New w0 w' := Mod.trans n m fun b hb e => by omega
theorem New.made {w w' : World} {o : Obj} (m : Mod (fun b => b = w.heap.size) (w.alloc o) w') : New w w' := (New.alloc w o).st m (Nat.le_refl _)
theorem Mod.keep {w w' : World} {g h : Nat} {o : Obj} (m : Mod (fun b => b = g) w w') (hb : w.heap[h]? = some o) (hne : h ≠ g) : w'.heap[h]? = some o := m.blk hb hne
/-- A new block stored whole: the block, and what was there. -/
theorem storeNew {w : World} {t : TypeId} {K : World → Prop} {vs : List Value} {arr : Array Value} (hs : vs.length = arr.size) (h1 : ∀ v ∈ vs, v.oneCell' = true)
    (k : ∀ w', w'.heap[w.heap.size]? = some (.cells vs.toArray t (0, 0)) → New w w' → w'.heap.size = w.heap.size + 1 → K w') : storeN ⟨w.heap.size, 0, none⟩ vs 0 (w.alloc (.cells arr t)) K := by
  refine storeN_all (vs := vs) (arr := arr) (t := t) (heap_alloc_new w _) hs h1 ?_
  intro w' hb m hsz
  exact k w' hb (New.made m) (by rw [hsz]; simp)
/-! ### Operations by hand, where the unifier does not find its way -/
section
variable {P : Program} {T : Tab} {F : FuncId → Bool} {ops : Array Oper} {Q : Fr → World → Prop} {o : Oper} {rest : List Oper} {fr : Fr} {w : World} {K : Fr → World → Prop} {x y : Operand} {t : TypeId} {b : Bool}
theorem nil_ (h : Q fr w) : evOps P T F ops Q [] fr w := h
theorem op_ (hg : o.guard = none) (h : evOp P T F o fr w (fun fr w => evOps P T F ops Q rest fr w)) : evOps P T F ops Q (o :: rest) fr w := by
  show evStep P T F ops o _ fr w
  unfold evStep
  rw [hg]
  exact h
theorem op_move (ho : o.op = .move x) (h : K (putF fr o.dst (ev fr x)) w) : evOp P T F o fr w K := by
  unfold evOp evPure
  simp only [ho]
  exact force_ h
theorem op_range (ho : o.op = .range t x) (h : raw P o fr w K) : evOp P T F o fr w K := by
  unfold evOp evPure
  simp only [ho]
  exact h
theorem op_next (ho : o.op = .next x b) (h : raw P o fr w K) : evOp P T F o fr w K := by
  unfold evOp evPure
  simp only [ho]
  exact h
theorem op_build {parts : Array (Nat × Operand)} (ho : o.op = .build t parts) (h : evBuild T t (parts.toList.map fun p => (p.1, ev fr p.2)) fun v => K (putF fr o.dst v) w) : evOp P T F o fr w K := by
  unfold evOp evPure
  simp only [ho]
  exact h
theorem op_lookup (ho : o.op = .lookup t x y b) (h : raw P o fr w K) : evOp P T F o fr w K := by
  unfold evOp evPure
  simp only [ho]
  exact h
theorem op_makeMap {r : Option Operand} (ho : o.op = .makeMap t r) (h : raw P o fr w K) : evOp P T F o fr w K := by
  unfold evOp evPure
  simp only [ho]
  exact h
theorem op_mapUpdate {z : Operand} (ho : o.op = .mapUpdate t x y z) (h : raw P o fr w K) : evOp P T F o fr w K := by
  unfold evOp evPure
  simp only [ho]
  exact h
end
end Go.Proofs.Yteanhakkceancaa.Eng
