/- Maps whose keys are compared as data: made, looked up, set. -/
import Derived.Test.YtcpeekeiflglpaaMem
import Derived.DeepKeys3
import Derived.MapKept
namespace Go.Proofs.Ytcpeekeiflglpaa.Eng
open Go
/-- Keys that are found. -/
structure KeyL (P : Program) (k : TypeId) (dom : Value → Prop) : Prop where
  check : ∀ (w : World) (em : Bool) {v : Value}, dom v → (Instr.checkKey em 10000 k v).run P w = .ok () w
  find : ∀ (w : World) {x : Value}, dom x → ∀ es : List MapEntry, (∀ e ∈ es, dom e.key) →
    ((Instr.findKey k x es).run P w = .ok none w ∧ ∀ e ∈ es, e.key ≠ x) ∨ ∃ j e, (Instr.findKey k x es).run P w = .ok (some (j, e.val)) w ∧ es[j]? = some e ∧ e.key = x
  stays : ∀ (w : World) {v : Value}, dom v → (Instr.keyThatStays v v).run P w = .ok v w
theorem keyL_plain {P : Program} {k : TypeId} {d : TypeDesc} (hd : P.underlying k = some d) : KeyL P k (MapKept.IsKey d) where
  check w em _ hv := MapKept.run_checkKey hd hv em 9999
  find w _ hx es hes := by
    rcases MapKept.findNow_spec hx es 0 hes with ⟨h1, h2⟩ | ⟨j, e, h1, h2, h3⟩
    · exact .inl ⟨MapKept.run_findKey hd h1, h2⟩
    · exact .inr ⟨j, e, by rw [Nat.zero_add] at h1; exact MapKept.run_findKey hd h1, h2, h3⟩
  stays w _ hv := MapKept.run_keyThatStays hv
theorem keyL_deep {P : Program} {k : TypeId} (K : WideMaps.KeyLaw P k) : KeyL P k (fun v => ∃ l, keyOf P k v = some l) where
  check w em _ := fun ⟨_, h⟩ => K.check w em h
  find w _ := fun ⟨_, h⟩ es hes => K.find w h es hes
  stays w _ := fun ⟨_, h⟩ => K.stays w h
/-- What a map holds. -/
def MapF (dom : Value → Prop) (w : World) (r : Nat) (f : Value → Option Value) : Prop :=
  ∃ es clock, w.heap[r]? = some (.map es clock) ∧ (∀ e ∈ es.toList, dom e.key) ∧ (∀ (i j : Nat) (a b : MapEntry), es.toList[i]? = some a → es.toList[j]? = some b → a.key = b.key → i = j) ∧
    (∀ e ∈ es.toList, f e.key = some e.val) ∧ ∀ key v, f key = some v → ∃ e ∈ es.toList, e.key = key
theorem MapF.mod {dom : Value → Prop} {S : Nat → Prop} {w w' : World} {r : Nat} {f : Value → Option Value} (h : MapF dom w r f) (m : Mod S w w') (hr : ¬ S r) : MapF dom w' r f := by
  obtain ⟨es, clock, h1, h2⟩ := h
  exact ⟨es, clock, m.blk h1 hr, h2⟩
theorem MapF.new {dom : Value → Prop} {w w' : World} {r : Nat} {f : Value → Option Value} (h : MapF dom w r f) (m : New w w') : MapF dom w' r f := h.mod m fun h => h
theorem MapF.lt {dom : Value → Prop} {w : World} {r : Nat} {f : Value → Option Value} (h : MapF dom w r f) : r < w.heap.size := by
  obtain ⟨es, clock, h1, _⟩ := h
  exact (Array.getElem?_eq_some_iff.1 h1).1
theorem mapF_new (dom : Value → Prop) (w : World) : MapF dom (w.alloc (.map #[] 0)) w.heap.size fun _ => none :=
  ⟨#[], 0, heap_alloc_new w _, fun _ h => (by simp at h), fun i j a b h => (by simp at h), fun _ h => (by simp at h), fun _ _ h => by cases h⟩
section
variable {P : Program} {dom : Value → Prop} {k e t : TypeId}
theorem run_makeMap (w : World) : (Instr.makeMap t none).run P w = .ok (.map (some w.heap.size)) (w.alloc (.map #[] 0)) := by
  simp [Instr.makeMap, Result.andThen]
theorem MapF.find {w : World} {r : Nat} {f : Value → Option Value} (h : MapF dom w r f) (K : KeyL P k dom) {x : Value} (hx : dom x) : ∃ es clock, w.heap[r]? = some (.map es clock) ∧
    (((Instr.findKey k x es.toList).run P w = .ok none w ∧ f x = none) ∨ ∃ j v, (Instr.findKey k x es.toList).run P w = .ok (some (j, v)) w ∧ f x = some v) := by
  obtain ⟨es, clock, h1, h2, h3, h4, h5⟩ := h
  refine ⟨es, clock, h1, ?_⟩
  rcases K.find w hx es.toList h2 with ⟨h6, h7⟩ | ⟨j, e, h6, h7, h8⟩
  · left
    refine ⟨h6, ?_⟩
    cases hf : f x with
    | none => rfl
    | some v =>
      obtain ⟨e, he, hk⟩ := h5 x v hf
      exact absurd hk (h7 e he)
  · right
    refine ⟨j, e.val, h6, ?_⟩
    rw [← h8]
    exact h4 e (List.mem_of_getElem? h7)
/-- 'v, ok := m[k]'. -/
theorem run_lookup_ok {w : World} {r : Nat} {f : Value → Option Value} (h : MapF dom w r f) (K : KeyL P k dom) (ht : P.underlying t = some (.map k e)) {z : Value} (hz : (zeroValue e).run P w = .ok z w) {x : Value} (hx : dom x) :
    (Instr.lookup t (.map (some r)) x true).run P w = .ok (.tuple #[(f x).getD z, .bool (f x).isSome]) w := by
  obtain ⟨es, clock, hb, h⟩ := h.find K hx
  rcases h with ⟨h1, h2⟩ | ⟨j, v, h1, h2⟩
  · rw [h2]
    simp [Instr.lookup, run_underlying ht, MapKept.run_getObj_map hb, K.check w _ hx, h1, hz, Result.andThen]
  · rw [h2]
    simp [Instr.lookup, run_underlying ht, MapKept.run_getObj_map hb, K.check w _ hx, h1, Result.andThen]
/-- 'm[k]'. -/
theorem run_lookup {w : World} {r : Nat} {f : Value → Option Value} (h : MapF dom w r f) (K : KeyL P k dom) (ht : P.underlying t = some (.map k e)) {z : Value} (hz : (zeroValue e).run P w = .ok z w) {x : Value} (hx : dom x) :
    (Instr.lookup t (.map (some r)) x false).run P w = .ok ((f x).getD z) w := by
  obtain ⟨es, clock, hb, h⟩ := h.find K hx
  rcases h with ⟨h1, h2⟩ | ⟨j, v, h1, h2⟩
  · rw [h2]
    simp [Instr.lookup, run_underlying ht, MapKept.run_getObj_map hb, K.check w _ hx, h1, hz, Result.andThen]
  · rw [h2]
    simp [Instr.lookup, run_underlying ht, MapKept.run_getObj_map hb, K.check w _ hx, h1, Result.andThen]
/-- 'm[k] = v'. -/
theorem run_update {w : World} {r : Nat} {f : Value → Option Value} (h : MapF dom w r f) (K : KeyL P k dom) (ht : P.underlying t = some (.map k e)) {x v : Value} (hx : dom x) :
    ∃ w', (Instr.mapUpdate t (.map (some r)) x v).run P w = .ok () w' ∧ Mod (fun b => b = r) w w' ∧ w'.heap.size = w.heap.size ∧ ∀ g : Value → Option Value, g x = some v → (∀ y, y ≠ x → g y = f y) → MapF dom w' r g := by
  obtain ⟨es, clock, h1, h2, h3, h4, h5⟩ := h
  have modOf : ∀ o, Mod (fun b => b = r) w { w with heap := w.heap.setIfInBounds r o } := fun o =>
    ⟨rfl, rfl, rfl, by simp, fun i _ hi => (MapKept.heap_set h1).2 i hi⟩
  rcases K.find w hx es.toList h2 with ⟨h6, h7⟩ | ⟨j, e0, h6, h7, h8⟩
  · refine ⟨{ w with heap := w.heap.setIfInBounds r (.map (es.push ⟨x, v, clock⟩) (clock + 1)) }, ?_, modOf _, by simp, fun g hg ho => ⟨_, _, (MapKept.heap_set h1).1, ?_, ?_, ?_, ?_⟩⟩
    · simp [Instr.mapUpdate, run_underlying ht, MapKept.run_getObj_map h1, K.check w false hx, h6, MapKept.run_setObj_map _ h1, Result.andThen]
    · intro e he
      simp only [Array.toList_push, List.mem_append, List.mem_singleton] at he
      rcases he with he | rfl
      · exact h2 e he
      · exact hx
    · intro i j a b ha hb hab
      simp only [Array.toList_push] at ha hb
      have cut : ∀ (i : Nat) (a : MapEntry), (es.toList ++ [⟨x, v, clock⟩])[i]? = some a → es.toList[i]? = some a ∨ i = es.toList.length ∧ a = ⟨x, v, clock⟩ := fun i a ha => by
        by_cases hi : i < es.toList.length
        · rw [List.getElem?_append_left hi] at ha
          exact .inl ha
        · rw [List.getElem?_append_right (by omega)] at ha
          have : i - es.toList.length = 0 := by
            have := (List.getElem?_eq_some_iff.1 ha).1
            simp at this
            omega
          rw [this] at ha
          simp at ha
          exact .inr ⟨by omega, ha.symm⟩
      rcases cut i a ha with h9 | ⟨h9, rfl⟩
      · rcases cut j b hb with h10 | ⟨h10, rfl⟩
        · exact h3 i j a b h9 h10 hab
        · exact absurd hab (h7 a (List.mem_of_getElem? h9))
      · rcases cut j b hb with h10 | ⟨h10, rfl⟩
        · exact absurd hab.symm (h7 b (List.mem_of_getElem? h10))
        · omega
    · intro e he
      simp only [Array.toList_push, List.mem_append, List.mem_singleton] at he
      rcases he with he | rfl
      · rw [ho _ (h7 e he)]
        exact h4 e he
      · exact hg
    · intro key u hk
      by_cases hkx : key = x
      · exact ⟨⟨x, v, clock⟩, by simp, hkx.symm⟩
      · rw [ho key hkx] at hk
        obtain ⟨e, he, h9⟩ := h5 key u hk
        exact ⟨e, by simp [Array.mem_toList_iff.1 he], h9⟩
  · have hj : es[j]? = some e0 := by simpa using h7
    have hjl : j < es.toList.length := (List.getElem?_eq_some_iff.1 h7).1
    have hlist : (es.modify j fun e => { e with key := x, val := v }).toList = es.toList.set j { e0 with key := x, val := v } := by
      rw [Array.toList_modify]
      apply List.ext_getElem?
      intro i
      rw [List.getElem?_modify, List.getElem?_set]
      by_cases hij : j = i
      · subst hij
        simp only [Array.length_toList] at hjl
        have hej : es[j] = e0 := by rw [Array.getElem?_eq_getElem hjl] at hj; exact Option.some.inj hj
        simp [hjl, hej]
      · simp [hij]
    refine ⟨{ w with heap := w.heap.setIfInBounds r (.map (es.modify j fun e => { e with key := x, val := v }) clock) }, ?_, modOf _, by simp, fun g hg ho => ⟨_, _, (MapKept.heap_set h1).1, ?_, ?_, ?_, ?_⟩⟩
    · simp [Instr.mapUpdate, run_underlying ht, MapKept.run_getObj_map h1, K.check w false hx, h6, hj, h8, K.stays w hx, MapKept.run_setObj_map _ h1, Result.andThen]
    · intro e he
      rw [hlist] at he
      rcases List.mem_or_eq_of_mem_set he with he | rfl
      · exact h2 e he
      · exact hx
    · rw [hlist]
      have same : ∀ (i : Nat) (a : MapEntry), (es.toList.set j { e0 with key := x, val := v })[i]? = some a → ∃ a', es.toList[i]? = some a' ∧ a'.key = a.key := fun i a ha => by
        rw [List.getElem?_set] at ha
        split at ha
        · rename_i hij
          subst hij
          first
            | (rw [if_pos hjl] at ha; cases ha; exact ⟨e0, h7, h8⟩)
            | (cases ha; exact ⟨e0, h7, h8⟩)
        · exact ⟨a, ha, rfl⟩
      intro i i' a b ha hb hab
      obtain ⟨a', ha', ea⟩ := same i a ha
      obtain ⟨b', hb', eb⟩ := same i' b hb
      exact h3 i i' a' b' ha' hb' (by rw [ea, eb, hab])
    · intro e he
      rw [hlist] at he
      obtain ⟨i, hi, rfl⟩ := List.getElem_of_mem he
      rw [List.length_set] at hi
      rw [List.getElem_set]
      split
      · exact hg
      · rename_i hij
        have hmem := List.getElem_mem hi
        rw [ho _ (fun hk => hij (h3 j i e0 es.toList[i] h7 (List.getElem?_eq_getElem hi) (by rw [h8, hk])))]
        exact h4 _ hmem
    · intro key u hk
      rw [hlist]
      by_cases hkx : key = x
      · exact ⟨{ e0 with key := x, val := v }, List.mem_set hjl _, hkx.symm⟩
      · rw [ho key hkx] at hk
        obtain ⟨e, he, h9⟩ := h5 key u hk
        obtain ⟨i, hi, rfl⟩ := List.getElem_of_mem he
        have hij : j ≠ i := fun hij => by
          subst hij
          rw [List.getElem?_eq_getElem hi] at h7
          cases h7
          exact hkx (h9.symm.trans h8)
        exact ⟨es.toList[i], List.mem_iff_getElem.2 ⟨i, by rw [List.length_set]; exact hi, by rw [List.getElem_set, if_neg hij]⟩, h9⟩
variable {o : Oper} {x ix z : Operand} {fr : Fr} {w : World} {r : Nat} {key u v : Value}
theorem exec_lookup {b : Bool} (ho : o.op = .lookup t x ix b) (hx : ev fr x = .map (some r)) (hk : ev fr ix = key) (h : (Instr.lookup t (.map (some r)) key b).run P w = .ok v w) : (execOp (ev fr) o).run P w = .ok (.value v) w := by
  simp [execOp, ho, hx, hk, h]
theorem update_ {K : Fr → World → Prop} {w' : World} (ho : o.op = .mapUpdate t x ix z) (hx : ev fr x = .map (some r)) (hk : ev fr ix = key) (hz : ev fr z = u) (h : (Instr.mapUpdate t (.map (some r)) key u).run P w = .ok () w') (k : K (putF fr o.dst undef) w') : raw P o fr w K := by
  refine raw_skip ?_ k
  simp [execOp, ho, hx, hk, hz, h]
theorem makeMap_ {K : Fr → World → Prop} (ho : o.op = .makeMap t none) (k : K (putF fr o.dst (.map (some w.heap.size))) (w.alloc (.map #[] 0))) : raw P o fr w K := by
  refine raw_value ?_ k
  simp [execOp, ho, run_makeMap]
end
end Go.Proofs.Ytcpeekeiflglpaa.Eng
