/- Arrays as values, for the engine: cut, made of slices, put into slices; 'make' of structs. -/
import Derived.Test.YteanhakkceancaaMem3
import Derived.Test.YteanhakkceancaaDraw
namespace Go.Proofs.Yteanhakkceancaa.Eng
open Go
section
variable {P : Program} {T : Tab} {F : FuncId → Bool}
theorem loadNC_aux {C : World → Prop} {a : Addr} {K : List Value → Prop} : ∀ (rest acc : List Value), (∀ k u, rest[k]? = some u → ∀ w, C w → w.cell? (a.add (acc.length + k)) = some u) → K (acc ++ rest) → loadNC C a rest.length acc.length acc K
  | [], acc, _, hk => by
    rw [List.append_nil] at hk
    exact hk
  | v :: r, acc, h, hk => by
    refine ⟨v, h 0 v rfl, ?_⟩
    have e : acc.length + 1 = (acc ++ [v]).length := by simp
    have := loadNC_aux (C := C) (a := a) (K := K) r (acc ++ [v]) (fun k u hu => by
      have := h (k + 1) u (by simpa using hu)
      rw [← e, Nat.add_assoc, Nat.add_comm 1 k]
      exact this) (by simpa using hk)
    rw [← e] at this
    exact this
/-- Cells that are known in all worlds on the way, loaded. -/
theorem loadNC_row {C : World → Prop} {a : Addr} {vs : List Value} {n : Nat} {K : List Value → Prop} (h : ∀ k u, vs[k]? = some u → ∀ w, C w → w.cell? (a.add k) = some u) (hn : vs.length = n) (hk : K vs) : loadNC C a n 0 [] K := by
  subst hn
  exact loadNC_aux (C := C) (a := a) (K := K) vs [] (fun k u hu w hw => by simpa using h k u hu w hw) hk
/-- '[n]T(s)', its address. -/
theorem s2a_run (hT : TabOk P T F) {o : Oper} {arr : TypeId} {x : Operand} {fr : Fr} {ta : TI} {N : Nat} {e : TypeId} {A : Option Addr} {n c : Nat} (ho : o.op = .sliceToArrayPointer arr x) (ht : T arr = some ta) (hd : ta.desc = .array N e) (hx : ev fr x = .slice A n c) (hn : N ≤ n) (w : World) :
    (execOp (ev fr) o).run P w = .ok (.value (.pointer A)) w := by
  have hu := hT.desc arr ta ht
  rw [hd] at hu
  have hlt : ¬ n < N := by omega
  simp [execOp, ho, Instr.arrayAt, hx, run_underlying hu, hlt]
/-- 'a[:]' of an array in memory. -/
theorem cut_arr (hT : TabOk P T F) {o : Oper} {t : TypeId} {x : Operand} {fr : Fr} {w : World} {K : Fr → World → Prop} {ta te : TI} {N : Nat} {e : TypeId} {a : Addr} (ho : o.op = .slice t x none none none) (ht : T t = some ta) (hd : ta.desc = .array N e) (he : T e = some te) (hx : ev fr x = .pointer (some a)) (hN : 0 < N)
    (k : K (putF fr o.dst (.slice (some a) N N)) w) : raw P o fr w K := by
  have hu := hT.desc t ta ht
  rw [hd] at hu
  have hs := hT.size e te he w
  refine raw_value ?_ k
  have h0 : ¬ N = 0 := by omega
  simp [execOp, ho, Instr.sliceAt, hx, run_underlying hu, Instr.sureAddr, Instr.sliceBounds, hs, h0, Addr.add]
theorem cut_arr_ (hT : TabOk P T F) {o : Oper} {t : TypeId} {x : Operand} {fr : Fr} {w : World} {K : Fr → World → Prop} {ta te : TI} {N : Nat} {e : TypeId} {a : Addr} (ho : o.op = .slice t x none none none) (ht : T t = some ta) (hd : ta.desc = .array N e) (he : T e = some te) (hx : ev fr x = .pointer (some a)) (hN : 0 < N)
    (k : K (putF fr o.dst (.slice (some a) N N)) w) : evOp P T F o fr w K := by
  have h := cut_arr (P := P) (F := F) (K := K) hT ho ht hd he hx hN k
  unfold evOp evPure
  simp only [ho, Option.map_none]
  unfold evSlice
  simp only [hx]
  exact h
/-- A slice of one member that is an array. -/
theorem build1_ {t : TypeId} {v : Value} {w : World} {put : Value → World → Prop} {ti te : TI} {e : TypeId} {xs : List Value} (ht : T t = some ti) (hd : ti.desc = .slice e) (he : T e = some te) (hv : v.cells.toList = xs) (hl : xs.length = te.size) (hb : Nat.ble te.size 16777216 = true) (hz : te.zero.length = te.size)
    (k : put (.slice (some ⟨w.heap.size, 0, none⟩) 1 1) (w.alloc (.cells xs.toArray e))) : evBuildSlice T t 1 [(0, v)] w put := by
  unfold evBuildSlice
  have h1 : (Nat.ble (1 * te.size) 16777216 && Nat.beq te.zero.length te.size) = true := by
    rw [Nat.one_mul, hb, hz]
    simp
  have hr : repeatL te.zero 1 = te.zero := by simp [repeatL]
  have h2 : (Nat.beq v.cells.toList.length te.size && Nat.ble (0 * te.size + te.size) (repeatL te.zero 1).length) = true := by
    rw [hv, hl, hr, hz]
    simp
  rw [ht]
  simp only [hd, he, h1]
  have hf : fillL (fun i => some (i * te.size, te.size)) (repeatL te.zero 1) [(0, v)] = some xs := by
    simp only [fillL, h2]
    rw [hv, hr, Nat.zero_mul, Nat.zero_add, List.take_zero, List.nil_append, List.drop_eq_nil_of_le (by omega), List.append_nil]
  exact evFill_ hf k
theorem eff_build {o : Oper} {fr : Fr} {K : Fr → World → Prop} {x : Operand} {t : TypeId} {v : Value} {w : World} {ti te : TI} {e : TypeId} {xs : List Value} (ho : o.op = .buildSlice t 1 #[(0, x)]) (hv : ev fr x = v) (ht : T t = some ti) (hd : ti.desc = .slice e) (he : T e = some te) (hc : v.cells.toList = xs) (hb : Nat.ble te.size 16777216 = true) (hz : te.zero.length = te.size) (hl : xs.length = te.size)
    (k : K (putF fr o.dst (.slice (some ⟨w.heap.size, 0, none⟩) 1 1)) (w.alloc (.cells xs.toArray e))) : Eff (evOp P T F o fr w K) := by
  refine ⟨?_⟩
  have h := build1_ (w := w) (put := fun v w' => K (putF fr o.dst v) w') ht hd he hc hl hb hz k
  unfold evOp evPure
  simp only [ho]
  subst hv
  exact h
theorem madeCells_get (z : Array Value) (n : Nat) (i : Nat) (h : i < n) (hz : 0 < z.size) : (madeCells z n).toList[i]? = z.toList[i % z.size]? := by
  have : i % z.size < z.size := Nat.mod_lt _ hz
  simp [madeCells, h, Array.getElem!_eq_getD, Array.getD_eq_getD_getElem?, this]
/-- 'make([]T, n)' of structs: cell by cell the zero value's. -/
theorem make_g (hT : TabOk P T F) {o : Oper} {l : Operand} {t e : TypeId} {ti te : TI} {fr : Fr} {w : World} {K : Fr → World → Prop} (ho : o.op = .makeSlice t l l)
    (ht : T t = some ti) (htd : ti.desc = .slice e) (he : T e = some te) {n : Nat} {kl : IntKind} {i : Int} (hl : ev fr l = .int kl i) (hi : i = (n : Int)) (hb : te.bytes * n ≤ 281474976710656) (h63 : n ≤ 9223372036854775807) (hz : te.zero.length = te.size) (hs : 0 < te.size)
    (k : ∀ w' arr, w'.heap[w.heap.size]? = some (.cells arr e (0, 0)) → arr.size = n * te.size → (∀ j, j < n * te.size → arr[j]? = te.zero[j % te.size]?) → New w w' → K (putF fr o.dst (.slice (some ⟨w.heap.size, 0, none⟩) n n)) w') : raw P o fr w K := by
  subst hi
  obtain ⟨j, z, hj, hjs, hjb, hjz, hzc⟩ := hT.info e te he
  have hu := hT.desc t ti ht
  rw [htd] at hu
  have h63' : ¬ ((n : Int) > 9223372036854775807) := by omega
  obtain ⟨w', hrun, hown, hg⟩ := run_make_full (P := P) w w.heap.size t e j z te.size hu hj hjz hjs kl kl n (by rw [hjb]; exact hb) (by unfold maxLen; omega) (Nat.le_refl _)
  have hzs : z.cells.size = te.size := by rw [hzc]; simpa using hz
  have hn : New w w' := (Mod.grown hg).mono fun i _ h => by cases h
  refine raw_value (w' := w') (v := .slice (some ⟨w.heap.size, 0, none⟩) n n) ?_ ?_
  · simp [execOp, ho, hl, hrun]
  · rcases hown.2 with ⟨hv, _⟩ | ⟨g, cap, cur, hv, hbg, hgg, hnc, hcm, hcs, htake⟩
    · cases hv
    · injection hv with h1 h2 h3
      injection h1 with h1
      injection h1 with h1 _ _
      subst h1 h3
      have hfull : cur.toList = (madeCells z.cells (n * te.size)).toList := by
        rw [← htake, List.take_of_length_le]
        rw [Array.length_toList, hcs]
        exact Nat.le_refl _
      refine k w' cur hgg hcs ?_ hn
      · intro j hj
        have := congrArg (fun l : List Value => l[j]?) hfull
        simp only [Array.getElem?_toList] at this
        rw [this]
        have h2 := madeCells_get z.cells (n * te.size) j hj (by omega)
        rw [Array.getElem?_toList] at h2
        rw [h2, hzs, hzc]
end
end Go.Proofs.Yteanhakkceancaa.Eng
