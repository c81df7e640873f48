/- Structs of numbers, texts and yes-or-noes, compared. -/
import Derived.Test.YteanhakkceancaaDraw
import Derived.DeepKeys
namespace Go.Proofs.Yteanhakkceancaa.Eng
open Go
section
variable {P : Program} {T : Tab} {F : FuncId → Bool}
def cellEq : Value → Value → Bool
  | .int _ a, .int _ b => decide (a = b)
  | .string a, .string b => decide (a = b)
  | .bool a, .bool b => decide (a = b)
  | _, _ => false
def oneOk : TypeDesc → Value → Value → Bool
  | .int _, .int k _, .int k' _ => decide (k = k')
  | .string, .string _, .string _ => true
  | .bool, .bool _, .bool _ => true
  | _, _, _ => false
/-- The fields of two structs fit, by the table. -/
def flatOk (T : Tab) (xs ys : Array Value) (f : Field) : Bool := f.name != "_" && (match T f.type, xs[f.offset]?, ys[f.offset]? with
  | some ti, some u, some v => oneOk ti.desc u v
  | _, _, _ => false)
def flatEq (xs ys : Array Value) (fs : List Field) : Bool := fs.all fun f => match xs[f.offset]?, ys[f.offset]? with
  | some u, some v => cellEq u v
  | _, _ => false
theorem eq_str (a b : ByteArray) : (a == b) = decide (a = b) := by
  show (a.data == b.data) = _
  by_cases h : a = b
  · rw [decide_eq_true h, h]; simp
  · rw [decide_eq_false h]
    have : ¬ a.data = b.data := fun e => h (ByteArray.ext e)
    simpa using this
theorem eqFields_flat (hT : TabOk P T F) {xs ys : Array Value} (d : Nat) (w : World) : ∀ fs : List Field, fs.all (flatOk T xs ys) = true → (Op.eqFields (d + 1) xs ys fs).run P w = .ok (flatEq xs ys fs) w
  | [], _ => by simp [Op.eqFields, flatEq]
  | f :: fs, h => by
    rw [List.all_cons, Bool.and_eq_true] at h
    obtain ⟨h1, h2⟩ := h
    have ih := eqFields_flat hT d w fs h2
    unfold flatOk at h1
    rw [Bool.and_eq_true] at h1
    obtain ⟨hn, h1⟩ := h1
    have hn' : f.name ≠ "_" := by simpa using hn
    unfold flatEq at ih ⊢
    rw [List.all_cons]
    cases ht : T f.type with
    | none => rw [ht] at h1; simp at h1
    | some ti =>
      cases hx : xs[f.offset]? with
      | none => rw [ht, hx] at h1; simp at h1
      | some u =>
        cases hy : ys[f.offset]? with
        | none => rw [ht, hx, hy] at h1; simp at h1
        | some v =>
          rw [ht, hx, hy] at h1
          simp only at h1 ⊢
          have hu := hT.desc _ _ ht
          have go : ∀ r : Bool, (Op.equalIn (d + 1) f.type u v).run P w = .ok r w → (isAgg f.type).run P w = .ok false w → cellEq u v = r → (Op.eqFields (d + 1) xs ys (f :: fs)).run P w = .ok (cellEq u v && fs.all fun f => match xs[f.offset]?, ys[f.offset]? with
              | some u, some v => cellEq u v
              | _, _ => false) w := by
            intro r hr ha hc
            have px : (part f.type xs f.offset).run P w = .ok u w := by simp [part, ha, hx]
            have py : (part f.type ys f.offset).run P w = .ok v w := by simp [part, ha, hy]
            simp only [Op.eqFields, hn', ne_eq, not_false_eq_true, if_true, Sem.run_bind, px, py, hr, Result.andThen_ok]
            rw [hc]
            cases r
            · simp
            · simpa using ih
          cases hd : ti.desc <;> rw [hd] at h1 hu <;> (try simp only [oneOk] at h1) <;> try (cases h1; done)
          all_goals
            cases u <;> (try simp only [oneOk] at h1) <;> try (cases h1; done)
          all_goals
            cases v <;> (try simp only [oneOk] at h1) <;> try (cases h1; done)
          · exact go _ (eq_bool hu d _ _ w) (by simp [isAgg, run_underlying hu]) rfl
          · replace h1 := of_decide_eq_true h1
            subst h1
            refine go (cellEq _ _) ?_ (by simp [isAgg, run_underlying hu]) rfl
            simp [Op.equalIn, run_underlying hu, cellEq]
            rfl
          · refine go (cellEq _ _) ?_ (by simp [isAgg, run_underlying hu]) rfl
            simp [Op.equalIn, run_underlying hu, cellEq, eq_str]
/-- A struct's literal. -/
theorem build_ {t : TypeId} {parts : List (Nat × Value)} {put : Value → Prop} {ti : TI} {fs : Array Field} {cells : List Value} (ht : T t = some ti) (hd : ti.desc = .struct fs) (ha : fs.toList.all (fun f => (T f.type).isSome) = true) (hf : fillL (fieldPlaces T fs) ti.zero parts = some cells) (k : put (.agg cells.toArray)) : evBuild T t parts put := by
  unfold evBuild
  rw [ht]
  simp only [hd, ha, hf]
  exact k
/-- '==' and '!=' of two such structs. -/
theorem agg_cmp (hT : TabOk P T F) {o : Oper} {op : BinOp} {t u : TypeId} {x y : Operand} {fr : Fr} {ti : TI} {fs : Array Field} {xs ys : Array Value} (ho : o.op = .binOp op t x y u) (ht : T t = some ti) (hd : ti.desc = .struct fs) (hs : P.stoodInHeld t = false) (hg : P.eqGuardType P.depth t = false)
    (hx : ev fr x = .agg xs) (hy : ev fr y = .agg ys) (hf : fs.toList.all (flatOk T xs ys) = true) (b : Bool) (hb : op = .eql ∧ b = flatEq xs ys fs.toList ∨ op = .neq ∧ b = !flatEq xs ys fs.toList) (w : World) :
    (execOp (ev fr) o).run P w = .ok (.value (.bool b)) w := by
  have hu := hT.desc _ _ ht
  rw [hd] at hu
  have he : (Op.equal t (.agg xs) (.agg ys)).run P w = .ok (flatEq xs ys fs.toList) w := by
    unfold Op.equal Op.maxDepth
    have hfs : P.fieldsOf t = fs := by simp [Program.fieldsOf, hu]
    rw [show (10000 : Nat) = 9998 + 1 + 1 from rfl, run_equalIn_struct w (9998 + 1) t xs ys (by rw [hfs]; exact hu) hs, hfs]
    exact eqFields_flat hT 9998 w fs.toList hf
  have hguard : ∀ op, (eqGuard op t x y (.agg xs) (.agg ys)).run P w = .ok () w := by
    intro op
    cases op <;> simp [eqGuard, hg]
  simp only [execOp, ho, hx, hy, Sem.run_bind, hguard, Result.andThen_ok]
  rcases hb with ⟨rfl, rfl⟩ | ⟨rfl, rfl⟩
  · simp [binOp, he]
  · simp [binOp, he]
end
end Go.Proofs.Yteanhakkceancaa.Eng
