/- A string turned to bytes; a string appended to bytes. -/
import Derived.Test.YteanhakkceancaaArr
import Derived.Lib.ConvBytes
import Derived.Lib.AppendStr
namespace Go.Proofs.Yteanhakkceancaa.Eng
open Go Go.Proofs.Yteanhakkceancaa Go.Proofs
section
variable {P : Program} {T : Tab} {F : FuncId → Bool}
theorem strCells_bvs (l : List UInt8) : Lib.strCells ⟨l.toArray⟩ = bvs l := rfl
/-- '[]byte(s)'. -/
theorem str_bytes_ (hT : TabOk P T F) {o : Oper} {x : Operand} {src t e : TypeId} {tsi ti te : TI} {fr : Fr} {w : World} {K : Fr → World → Prop} (ho : o.op = .convert src t x) (hs : T src = some tsi) (ht : T t = some ti) (htd : ti.desc = .slice e) (he : T e = some te) (hed : te.desc = .int .u8)
    {l : List UInt8} (hx : ev fr x = .string ⟨l.toArray⟩) (hl : l.length ≤ 9223372036854775807)
    (k : ∀ c w', l.length ≤ c → c ≤ 9223372036854775807 → Row w' (some ⟨w.heap.size, 0, none⟩) (bvs l) → New w w' → w'.heap.size = w.heap.size + 1 → K (putF fr o.dst (.slice (some ⟨w.heap.size, 0, none⟩) l.length c)) w') : raw P o fr w K := by
  have hus := hT.desc src tsi hs
  have hu := hT.desc t ti ht
  have hue := hT.desc e te he
  rw [htd] at hu
  rw [hed] at hue
  have hrun := Lib.run_convert_string_bytes (P := P) w src t e ⟨l.toArray⟩ hus hu hue
  have hsz : (ByteArray.mk l.toArray).size = l.length := by simp [ByteArray.size]
  rw [hsz] at hrun
  have hnew : New w (Lib.bytesWorld w e ⟨l.toArray⟩) := ⟨rfl, rfl, rfl, by rw [Lib.bytesWorld_size]; omega, fun b hb _ => Lib.bytesWorld_at_old w e ⟨l.toArray⟩ b hb⟩
  have hrow : Row (Lib.bytesWorld w e ⟨l.toArray⟩) (some ⟨w.heap.size, 0, none⟩) (bvs l) := by
    intro j u hu
    refine ⟨_, rfl, ?_⟩
    have hj : j < l.length := by
      have := (List.getElem?_eq_some_iff.1 hu).1
      rwa [bvs_length] at this
    rw [Addr.add_lit, Nat.zero_add, Lib.bytesWorld_cell w e ⟨l.toArray⟩ j (by rw [hsz]; exact hj)]
    rw [bvs_get l j hj] at hu
    rw [← hu]
    simp [List.getD, hj, bv]
  refine raw_value ?_ (k (grownCap w l.length 0 e) (Lib.bytesWorld w e ⟨l.toArray⟩) (grownCap_ge w l.length 0 e) (by have := grownCap_le_maxLen w l.length 0 e (by unfold maxLen; omega); unfold maxLen at this; omega) hrow hnew (Lib.bytesWorld_size w e _))
  simp [execOp, ho, hx, hrun]
/-- 'append(b, s...)'. -/
theorem append_str_ (hT : TabOk P T F) {o : Oper} {s x : Operand} {t u e : TypeId} {ti ui : TI} {i : TypeInfo} {fr : Fr} {w : World} {K : Fr → World → Prop} (ho : o.op = .call { callee := .builtin .append, args := #[s, x], argTypes := #[t, u] })
    (ht : T t = some ti) (htd : ti.desc = .slice e) (hu : T u = some ui) (hud : ui.desc = .string) (hi : P.info? e = some i) (hz : i.zero = some (.int .u8 0)) (hs : i.size = 1) (hb : i.bytes = 1) {base n : Nat} {v : Value} {xs : List Value} (hown : w.ownsRow base e 1 v n xs) (hv : ev fr s = v) {l : List UInt8} (hx : ev fr x = .string ⟨l.toArray⟩)
    (hbytes : n + l.length ≤ 140737488355328) (hbase : base ≤ w.heap.size)
    (k : ∀ A' c' w', w'.ownsRow base e 1 (.slice A' (n + l.length) c') (n + l.length) (xs ++ bvs l) → Mod (fun k => some k = v.ownBlock) w w' → K (putF fr o.dst (.slice A' (n + l.length) c')) w') : raw P o fr w K := by
  have hut := hT.desc t ti ht
  have huu := hT.desc u ui hu
  rw [htd] at hut
  rw [hud] at huu
  have hsz : (ByteArray.mk l.toArray).size = l.length := by simp [ByteArray.size]
  obtain ⟨v', w', hrun, ho', hg, _⟩ := Lib.run_append_own_string (P := P) w base t u o.type e i hut huu hi hz hs hb v n xs hown ⟨l.toArray⟩ (by rw [hsz]; unfold maxLen; omega) (by rw [hsz]; exact hbytes) hbase
  rw [hsz, strCells_bvs] at ho'
  obtain ⟨A', c', rfl, _⟩ := own_slice ho'
  refine raw_value ?_ (k A' c' w' ho' (Mod.grown hg))
  simp only [execOp, ho, resolve, Sem.run_bind, Sem.run_pure, Result.andThen_ok, invoke, builtin, List.map_toArray, List.map_cons, List.map_nil, hv, hx]
  rw [hrun]
  rfl
end
end Go.Proofs.Yteanhakkceancaa.Eng
