/- 'append(s, x...)' onto a row of one's own: what was there stays where it was. -/
import Derived.Test.YtpcoleeggeahlaaDoorMem2
import Derived.Laws.Tables
namespace Go.Proofs.YtpcoleeggeahlaaDoor.Eng
open Go
section
variable {P : Program} {T : Tab} {F : FuncId → Bool}
/-- The elder value's row reads as it did. -/
def oldStays (w' : World) (v : Value) (xs : List Value) : Prop := ∀ A n c, v = .slice A n c → Row w' A xs
theorem run_append_own3 (w : World) (base : Nat) (t ty e : TypeId) (i : TypeInfo) (z : Value) (ht : P.underlying t = some (.slice e)) (hi : P.info? e = some i) (hz : i.zero = some z) (hzs : z.cells.size = i.size) (hsz : 0 < i.size)
    (v : Value) (n : Nat) (xs : List Value) (hown : w.ownsRow base e i.size v n xs) (a : Addr) (m c : Nat) (news : List Value) (hl : news.length = m * i.size) (hnews : ∀ j u, news[j]? = some u → w.cell? (a.add j) = some u) (h1 : ∀ u ∈ news, u.oneCell' = true)
    (h63 : n + m ≤ maxLen) (hbytes : (n + m) * i.bytes ≤ 140737488355328) (hbase : base ≤ w.heap.size) :
    ∃ v' w', (Builtin.append_ #[t, t] ty #[v, .slice (some a) m c]).run P w = .ok v' w' ∧ w'.ownsRow base e i.size v' (n + m) (xs ++ news) ∧ w.grownBy w' v.ownBlock ∧ stayed w v v' ∧ oldStays w' v xs := by
  obtain ⟨v', w', hrun, hown', hg, hst⟩ := run_append_own2 (P := P) w base t ty e i z ht hi hz hzs hsz v n xs hown a m c news hl hnews h1 h63 hbytes hbase
  have h63' : n + m ≤ 9223372036854775807 := by unfold maxLen at h63; omega
  refine ⟨v', w', hrun, hown', hg, hst, ?_⟩
  rcases hown.2 with ⟨rfl, rfl⟩ | ⟨g, cap, cur, rfl, hbg, hgg, hnc, hcm, hcs, htake⟩
  · intro A n c he j u hu
    have := hown.1
    rw [Nat.zero_mul] at this
    rw [List.length_eq_zero_iff.1 this] at hu
    simp at hu
  · intro A n' c' he j u hu
    cases he
    refine ⟨_, rfl, ?_⟩
    have hj : j < n * i.size := by rw [← hown.1]; exact (List.getElem?_eq_some_iff.1 hu).1
    have hcur : cur[j]? = some u := by
      rw [← htake, List.getElem?_take, if_pos hj] at hu
      simpa using hu
    have hle : n * i.size ≤ cap * i.size := Nat.mul_le_mul_right _ hnc
    rw [Addr.add_lit, Nat.zero_add]
    by_cases hroom : n + m ≤ cap
    · have hfit : n * i.size + news.length ≤ cur.size := by rw [hl, hcs, ← Nat.add_mul]; exact Nat.mul_le_mul_right _ hroom
      have hr := run_append_room (P := P) w t ty e i ht hi g n cap cur hgg a m c news hl hnews h1 hroom hfit
      have he := hrun.symm.trans hr
      simp only [Result.ok.injEq] at he
      rw [he.2, cell_setRow_same w g j _ _ _ _ hgg]
      have : (cur.toList.take (n * i.size) ++ news ++ cur.toList.drop (n * i.size + news.length))[j]? = some u := by
        rw [List.append_assoc, List.getElem?_append_left (by rw [List.length_take, Array.length_toList]; omega), List.getElem?_take, if_pos hj]
        simpa using hcur
      simpa using this
    · have holds : ∀ j u, xs[j]? = some u → w.cell? ((⟨g, 0, none⟩ : Addr).add j) = some u := hown.cells (g := g) rfl
      have hr := run_append_grow (P := P) w t ty e i z ht hi hz ⟨g, 0, none⟩ n cap xs hown.1 holds a m c news hl hnews (by omega) (by omega) (growslice_fits (by omega) hbytes)
      have he := hrun.symm.trans hr
      simp only [Result.ok.injEq] at he
      rw [he.2]
      have hn := ((New.drew w).trans (New.alloc w.drew (.cells (xs.toArray ++ news.toArray ++ Builtin.zeroCells z.cells (grownCap w (n + m) cap e - (n + m))) e))).blk hgg
      rw [cell_of_row _ _ j _ _ _ hn]
      exact hcur
/-- The same, at the operation. -/
theorem append3_ (hT : TabOk P T F) {o : Oper} {s x : Operand} {t e : TypeId} {ti te : TI} {fr : Fr} {w : World} {K : Fr → World → Prop} (ho : o.op = .call { callee := .builtin .append, args := #[s, x], argTypes := #[t, t] })
    (ht : T t = some ti) (htd : ti.desc = .slice e) (he : T e = some te) {base n m c : Nat} {v : Value} {a : Addr} {xs news : List Value} (hown : w.ownsRow base e te.size v n xs) (hv : ev fr s = v) (hx : ev fr x = .slice (some a) m c)
    (hr : Row w (some a) news) (hl : news.length = m * te.size) (h1 : ∀ u ∈ news, u.oneCell' = true) (hs : 0 < te.size) (hz : te.zero.length = te.size) (hb : (n + m) * te.bytes ≤ 140737488355328) (h63 : n + m ≤ 9223372036854775807) (hbase : base ≤ w.heap.size)
    (k : ∀ A' c' w', w'.ownsRow base e te.size (.slice A' (n + m) c') (n + m) (xs ++ news) → Mod (fun k => some k = v.ownBlock) w w' → stayed w v (.slice A' (n + m) c') → oldStays w' v xs → K (putF fr o.dst (.slice A' (n + m) c')) w') : raw P o fr w K := by
  obtain ⟨j, z, hj, hjs, hjb, hjz, hzc⟩ := hT.info e te he
  have hu := hT.desc t ti ht
  rw [htd] at hu
  have hzs : z.cells.size = j.size := by rw [hzc, hjs]; simpa using hz
  rw [← hjs] at hown hl hs k
  rw [← hjb] at hb
  obtain ⟨v', w', hrun, ho', hg, hst, hold⟩ := run_append_own3 (P := P) w base t o.type e j z hu hj hjz hzs hs v n xs hown a m c news hl
    (fun j u hu => by obtain ⟨a', ha, hc⟩ := hr j u hu; cases ha; exact hc) h1 (by unfold maxLen; omega) hb hbase
  obtain ⟨A', c', rfl, _⟩ := own_slice ho'
  refine raw_value ?_ (k A' c' w' ho' (Mod.grown hg) hst hold)
  simp only [execOp, ho, resolve, Sem.run_bind, Sem.run_pure, Result.andThen_ok, invoke, builtin, List.map_toArray, List.map_cons, List.map_nil, hv, hx]
  rw [hrun]
  rfl
end
end Go.Proofs.YtpcoleeggeahlaaDoor.Eng
