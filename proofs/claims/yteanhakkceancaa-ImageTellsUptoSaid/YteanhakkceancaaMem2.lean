/- 'append(s, make([]T, k)...)' onto a row of one's own. -/
import Derived.Test.YteanhakkceancaaMem
import Derived.Lib.AppendZerosOnto
namespace Go.Proofs.Yteanhakkceancaa.Eng
open Go
section
variable {P : Program} {T : Tab} {F : FuncId → Bool}
theorem toList_zeros (z : Value) (n : Nat) : (Builtin.zeroCells #[z] n).toList = List.replicate n z := by
  apply List.ext_getElem?
  intro j
  by_cases hj : j < n
  · simp [Builtin.zeroCells, hj, Nat.mod_one]
  · simp [Builtin.zeroCells, hj]
/-- Where the row of one's own lies behind an 'append': where it lay, or in a new block. -/
def stayed (w : World) (v v' : Value) : Prop := ∀ b, v'.ownBlock = some b → v.ownBlock = some b ∨ w.heap.size ≤ b
theorem stayed_at {w : World} {v : Value} {n c : Nat} : stayed w v (.slice (some ⟨w.heap.size, 0, none⟩) n c) := by
  intro b hb
  simp only [Value.ownBlock, Option.some.injEq] at hb
  exact .inr (by omega)
theorem run_append_own2 (w : World) (base : Nat) (t ty e : TypeId) (i : TypeInfo) (z : Value) (ht : P.underlying t = some (.slice e)) (hi : P.info? e = some i) (hz : i.zero = some z) (hzs : z.cells.size = i.size) (hsz : 0 < i.size)
    (v : Value) (n : Nat) (xs : List Value) (hown : w.ownsRow base e i.size v n xs) (a : Addr) (m c : Nat) (news : List Value) (hl : news.length = m * i.size) (hnews : ∀ j u, news[j]? = some u → w.cell? (a.add j) = some u) (h1 : ∀ u ∈ news, u.oneCell' = true)
    (h63 : n + m ≤ maxLen) (hbytes : (n + m) * i.bytes ≤ 140737488355328) (hbase : base ≤ w.heap.size) :
    ∃ v' w', (Builtin.append_ #[t, t] ty #[v, .slice (some a) m c]).run P w = .ok v' w' ∧ w'.ownsRow base e i.size v' (n + m) (xs ++ news) ∧ w.grownBy w' v.ownBlock ∧ stayed w v v' := by
  obtain ⟨v', w', hrun, hown', hg, hn⟩ := run_append_own (P := P) w base t ty e i z i.size i.bytes ht hi hz rfl rfl hzs hsz v n xs hown a m c news hl hnews h1 h63 hbytes hbase
  have h63' : n + m ≤ 9223372036854775807 := by unfold maxLen at h63; omega
  refine ⟨v', w', hrun, hown', hg, ?_⟩
  rcases hown.2 with ⟨rfl, rfl⟩ | ⟨g, cap, cur, rfl, hbg, hgg, hnc, hcm, hcs, htake⟩
  · by_cases hm : m = 0
    · rw [hn.2 ⟨rfl, hm⟩]
      intro b hb
      simp [Value.ownBlock] at hb
    · have hr := run_append_nil (P := P) w t ty e i z ht hi hz a m c news hl hnews (by omega) (by omega) (by have hb := hbytes; simp only [Nat.zero_add] at hb; omega)
      have he := hrun.symm.trans hr
      simp only [Result.ok.injEq] at he
      rw [he.1]
      exact stayed_at
  · by_cases hroom : n + m ≤ cap
    · have hfit : n * i.size + news.length ≤ cur.size := by rw [hl, hcs, ← Nat.add_mul]; exact Nat.mul_le_mul_right _ hroom
      have hr := run_append_room (P := P) w t ty e i ht hi g n cap cur hgg a m c news hl hnews h1 hroom hfit
      have he := hrun.symm.trans hr
      simp only [Result.ok.injEq] at he
      rw [he.1]
      intro b hb
      exact .inl hb
    · have holds : ∀ j u, xs[j]? = some u → w.cell? ((⟨g, 0, none⟩ : Addr).add j) = some u := hown.cells (g := g) rfl
      have hr := run_append_grow (P := P) w t ty e i z ht hi hz ⟨g, 0, none⟩ n cap xs hown.1 holds a m c news hl hnews (by omega) (by omega) (growslice_fits (by omega) hbytes)
      have he := hrun.symm.trans hr
      simp only [Result.ok.injEq] at he
      rw [he.1]
      exact stayed_at
theorem run_append_zeros_own {w : World} {base : Nat} {t tn ty e : TypeId} {i : TypeInfo} {z : Value} {z0 : Value} {kq kn : IntKind} (ht : P.underlying t = some (.slice e)) (htn : P.underlying tn = some (.int kn)) (hi : P.info? e = some i) (hz : i.zero = some z) (hzc : z.cells = #[z0]) (hz1 : z0.oneCell' = true) (hs : i.size = 1)
    {v : Value} {n : Nat} {xs : List Value} (hown : w.ownsRow base e 1 v n xs) {k : Nat} (h0 : 0 < k) (hb : (n + k) * i.bytes ≤ 140737488355328) (h63 : n + k ≤ 9223372036854775807) (hbase : base ≤ w.heap.size) :
    ∃ v' w', (Builtin.append_ #[t, tn] ty #[v, .int kq k]).run P w = .ok v' w' ∧ w'.ownsRow base e 1 v' (n + k) (xs ++ List.replicate k z0) ∧ Mod (fun b => some b = v.ownBlock) w w' ∧ stayed w v v' := by
  have hx := hown.1
  rw [Nat.mul_one] at hx
  have grown : ∀ (A : Option Addr) (old : Nat), v = .slice A n old → old < n + k → (Builtin.firstCells i.size n (.slice A n old)).run P w.drew = .ok xs.toArray w.drew →
      ∃ v' w', (Builtin.append_ #[t, tn] ty #[v, .int kq k]).run P w = .ok v' w' ∧ w'.ownsRow base e 1 v' (n + k) (xs ++ List.replicate k z0) ∧ Mod (fun b => some b = v.ownBlock) w w' ∧ stayed w v v' := by
    rintro A old rfl ho hold
    have hge := grownCap_ge w (n + k) old e
    have hk48 : k * i.bytes ≤ 281474976710656 := by
      have : k * i.bytes ≤ (n + k) * i.bytes := Nat.mul_le_mul_right _ (by omega)
      omega
    refine ⟨_, _, Go.Lib.run_append_grow_zeros w t tn ty e i z kq kn ht htn hi hz A n old xs hold k h0 (by omega) ho (by omega) hk48 (growslice_fits (by omega) hb), ?_, ?_, stayed_at⟩
    · refine ⟨by simp [hx], .inr ⟨w.heap.size, _, _, rfl, hbase, heap_alloc_new w.drew _, hge, grownCap_le_maxLen w (n + k) old e (by unfold maxLen; omega), ?_, ?_⟩⟩
      · simp only [Array.size_append, List.size_toArray, size_zeroCells, hzc, hx]
        simp
        omega
      · simp only [Array.toList_append, List.append_assoc]
        rw [hzc, toList_zeros, toList_zeros, ← List.append_assoc]
        have : (xs ++ List.replicate k z0).length = (n + k) * 1 := by simp [hx]
        rw [← this]
        exact List.take_left
    · exact (New.drew w).mod.alloc _
  rcases hown.2 with ⟨hv, rfl⟩ | ⟨g, cap, cur, hv, hbg, hg, hnc, hcm, hcs, htake⟩
  · have : xs = [] := List.eq_nil_of_length_eq_zero (by omega)
    subst this
    exact grown none 0 hv (by omega) (by simp [Builtin.firstCells])
  · by_cases hroom : n + k ≤ cap
    · subst hv
      have hw : IntKind.i64.wrap (k : Int) = k := by rw [IntKind.wrap_i64]; omega
      have h48i : ¬ (281474976710656 < (k : Int) * (i.bytes : Int)) := by
        have : k * i.bytes ≤ (n + k) * i.bytes := Nat.mul_le_mul_right _ (by omega)
        rw [← Int.natCast_mul]
        omega
      have hneg : ¬ ((k : Int) < 0) := by omega
      have hst := run_storeCells_at P g n e (List.replicate k z0) 0 cur w hg (by simp; omega) (by intro u hu; rw [List.eq_of_mem_replicate hu]; exact hz1)
      simp only [Nat.add_zero] at hst
      have hns : ¬ (k = 0) := by omega
      refine ⟨.slice (some ⟨g, 0, none⟩) (n + k) cap, w.setRow g (cur.toList.take n ++ List.replicate k z0 ++ cur.toList.drop (n + k)).toArray, ?_, ?_, ?_, fun b hb => .inl hb⟩
      · have hzl : (Builtin.zeroCells z.cells k).toList = List.replicate k z0 := by rw [hzc, toList_zeros]
        simp [Builtin.append_, run_underlying ht, run_underlying htn, sizeOf, typeInfo, zeroValue, hi, hz, hs, asInt, asIntOf, hw, hroom, hneg, hns, h48i, Addr.add_lit, hzl, hst]
      · refine ⟨by simp [hx], .inr ⟨g, cap, _, rfl, hbg, setRow_heap w g cur _ e _ hg, hroom, hcm, ?_, ?_⟩⟩
        · rw [Nat.mul_one] at hcs
          simp only [List.size_toArray, List.length_append, List.length_take, List.length_drop, Array.length_toList, List.length_replicate]
          omega
        · rw [Nat.mul_one] at htake
          rw [htake]
          have : (xs ++ List.replicate k z0).length = (n + k) * 1 := by simp [hx]
          rw [← this]
          exact List.take_left
      · exact ⟨rfl, rfl, rfl, by simp, fun j _ hj => setRow_other w g j _ (fun e => hj (by simp [Value.ownBlock, e]))⟩
    · subst hv
      refine grown _ cap rfl (by omega) ?_
      have holds : ∀ j u, xs[j]? = some u → w.cell? ((⟨g, 0, none⟩ : Addr).add j) = some u := hown.cells (g := g) rfl
      simp only [Builtin.firstCells, hs, Nat.mul_one]
      rw [← hx]
      exact run_loadCells_list _ _ _ (fun j u hu => holds j u hu)
theorem append_zeros_ (hT : TabOk P T F) {o : Oper} {s x : Operand} {t tn e : TypeId} {ti tni te : TI} {kn kq : IntKind} {z0 : Value} {fr : Fr} {w : World} {K : Fr → World → Prop} (ho : o.op = .call { callee := .builtin .append, args := #[s, x], argTypes := #[t, tn] })
    (ht : T t = some ti) (htd : ti.desc = .slice e) (htn : T tn = some tni) (htnd : tni.desc = .int kn) (he : T e = some te) (hes : te.size = 1) (hez : te.zero = [z0]) (hz1 : z0.oneCell' = true) {base n k : Nat} {i : Int} {v : Value} {xs : List Value} (hown : w.ownsRow base e 1 v n xs) (hv : ev fr s = v) (hx : ev fr x = .int kq i) (hi : i = (k : Int))
    (h0 : 0 < k) (hb : (n + k) * te.bytes ≤ 140737488355328) (h63 : n + k ≤ 9223372036854775807) (hbase : base ≤ w.heap.size)
    (hk : ∀ A' c' w', w'.ownsRow base e 1 (.slice A' (n + k) c') (n + k) (xs ++ List.replicate k z0) → Mod (fun b => some b = v.ownBlock) w w' → stayed w v (.slice A' (n + k) c') → K (putF fr o.dst (.slice A' (n + k) c')) w') : raw P o fr w K := by
  subst hi
  obtain ⟨j, z, hj, hjs, hjb, hjz, hzc⟩ := hT.info e te he
  have hu := hT.desc t ti ht
  rw [htd] at hu
  have hun := hT.desc tn tni htn
  rw [htnd] at hun
  obtain ⟨v', w', hrun, hown', hmod, hst⟩ := run_append_zeros_own (P := P) (ty := o.type) (kq := kq) hu hun hj hjz (by rw [hzc, hez]) hz1 (by rw [hjs, hes]) hown h0 (by rw [hjb]; exact hb) h63 hbase
  obtain ⟨A', c', rfl, _⟩ := own_slice hown'
  refine raw_value ?_ (hk A' c' w' hown' hmod hst)
  simp only [execOp, ho, resolve, Sem.run_bind, Sem.run_pure, Result.andThen_ok, invoke, builtin, List.map_toArray, List.map_cons, List.map_nil, hv, hx]
  rw [hrun]
  rfl
/-- 'append(s, x...)' onto a row of one's own; where it lies behind it is told. -/
theorem append2_ (hT : TabOk P T F) {o : Oper} {s x : Operand} {t e : TypeId} {ti te : TI} {fr : Fr} {w : World} {K : Fr → World → Prop} (ho : o.op = .call { callee := .builtin .append, args := #[s, x], argTypes := #[t, t] })
    (ht : T t = some ti) (htd : ti.desc = .slice e) (he : T e = some te) {base n m c : Nat} {v : Value} {A : Option Addr} {xs news : List Value} (hown : w.ownsRow base e te.size v n xs) (hv : ev fr s = v) (hx : ev fr x = .slice A m c)
    (hr : Row w A news) (hl : news.length = m * te.size) (h1 : ∀ u ∈ news, u.oneCell' = true) (hs : 0 < te.size) (hz : te.zero.length = te.size) (hb : (n + m) * te.bytes ≤ 140737488355328) (h63 : n + m ≤ 9223372036854775807) (hbase : base ≤ w.heap.size)
    (k : ∀ A' c' w', w'.ownsRow base e te.size (.slice A' (n + m) c') (n + m) (xs ++ news) → Mod (fun k => some k = v.ownBlock) w w' → stayed w v (.slice A' (n + m) c') → K (putF fr o.dst (.slice A' (n + m) c')) w') : raw P o fr w K := by
  cases A with
  | none =>
    have hn : news = [] := by
      cases news with
      | nil => rfl
      | cons u r => obtain ⟨a, ha, _⟩ := hr 0 u rfl; cases ha
    subst hn
    have hm : m = 0 := by
      have h0 : m * te.size = 0 := by simpa using hl.symm
      rcases Nat.mul_eq_zero.mp h0 with h | h <;> omega
    subst hm
    obtain ⟨j, z, hj, hjs, hjb, hjz, hzc⟩ := hT.info e te he
    have hu := hT.desc t ti ht
    rw [htd] at hu
    obtain ⟨A', c', rfl, _⟩ := own_slice hown
    refine raw_value ?_ (k A' c' w (by simpa using hown) (Mod.refl _ w) fun b hb => .inl hb)
    simp only [execOp, ho, resolve, Sem.run_bind, Sem.run_pure, Result.andThen_ok, invoke, builtin, List.map_toArray, List.map_cons, List.map_nil, hv, hx]
    rcases hown.2 with ⟨he, rfl⟩ | ⟨g, cap, cur, he, _, _, hnc, _⟩
    · cases he
      simp [Builtin.append_, run_underlying hu, sizeOf, typeInfo, hj, Builtin.lenOf, Builtin.firstCells]
    · cases he
      simp [Builtin.append_, run_underlying hu, sizeOf, typeInfo, hj, Builtin.lenOf, Builtin.firstCells, hnc, storeCells]
  | some a =>
    obtain ⟨j, z, hj, hjs, hjb, hjz, hzc⟩ := hT.info e te he
    have hu := hT.desc t ti ht
    rw [htd] at hu
    have hzs : z.cells.size = j.size := by rw [hzc, hjs]; simpa using hz
    rw [← hjs] at hown hl hs k
    rw [← hjb] at hb
    obtain ⟨v', w', hrun, ho', hg, hst⟩ := run_append_own2 (P := P) w base t o.type e j z hu hj hjz hzs hs v n xs hown a m c news hl
      (fun j u hu => by obtain ⟨a', ha, hc⟩ := hr j u hu; cases ha; exact hc) h1 (by unfold maxLen; omega) hb hbase
    obtain ⟨A', c', rfl, _⟩ := own_slice ho'
    refine raw_value ?_ (k A' c' w' ho' (Mod.grown hg) hst)
    simp only [execOp, ho, resolve, Sem.run_bind, Sem.run_pure, Result.andThen_ok, invoke, builtin, List.map_toArray, List.map_cons, List.map_nil, hv, hx]
    rw [hrun]
    rfl
end
end Go.Proofs.Yteanhakkceancaa.Eng
