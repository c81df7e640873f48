/- Regions that draw their order: quiet operations are taken first, what acts is taken in each order that is left. -/
import Derived.Test.YtdcaafldnbcdkaaGreatDoorEng
import Derived.Still
namespace Go.Proofs.YtdcaafldnbcdkaaGreatDoor.Eng
open Go

/-- A way through the operations: a quiet one; or each of those that may act now. -/
inductive Plan where
  | done
  | q (i : Nat) (p : Plan)
  | e (i : Nat) (p : Plan)
  | br (a b : Plan)

def stepV (P : Program) (K : Value → World → Prop) : Result Next → Prop
  | .ok (.value v) w' => K v w'
  | .ok .skip w' => K undef w'
  | .ok (.enter f args) w' => callQ P f args.toList w' K
  | .ok (.row row args) w' => Rows P row args w' K
  | .ok (.round l f tmps assign body) w' => RoundIn Fence.wide 0 P l f tmps assign body w' fun e w'' => ∃ v, e = .returned v ∧ K v w''
  | _ => False
theorem raw_step (P : Program) (o : Oper) (fr : Fr) (w : World) (K : Fr → World → Prop) : raw P o fr w K = stepV P (fun v w' => K (putF fr o.dst v) w') ((execOp (ev fr) o).run P w) := by
  unfold raw
  generalize (execOp (ev fr) o).run P w = r
  cases r with
  | halt x w' => rfl
  | ok x w' => cases x <;> rfl
theorem stepV_mono {P : Program} {K K' : Value → World → Prop} {r : Result Next} (h : stepV P K r) (hk : ∀ v w, K v w → K' v w) : stepV P K' r := by
  cases r with
  | halt x w' => exact h
  | ok x w' =>
    cases x <;> first
      | exact hk _ _ h
      | exact h
      | skip
    · exact Calls.mono h fun e w'' ⟨v, he, hv⟩ => ⟨v, he, hk _ _ hv⟩
    · exact RoundIn.mono h fun e w'' ⟨v, he, hv⟩ => ⟨v, he, hk _ _ hv⟩
    · exact Rows.mono h fun v w'' hv => hk _ _ hv

def yieldF (ops : Array Oper) (fr : Fr) (j : Nat) : Option Bool := match gslot ops j with
  | some d => (match fr d with
    | .bool b => some b
    | _ => none)
  | none => none
def wantedF (ops : Array Oper) (o : Oper) (fr : Fr) : Bool := match o.guard with
  | none => true
  | some (j, want) => yieldF ops fr j == some want

section
variable {P : Program} {T : Tab} {F : FuncId → Bool} {ops : Array Oper} {C : World → Prop} {tl : Nat → Bool} {Q : Fr → World → Prop}

def opF (P : Program) (ops : Array Oper) (C : World → Prop) (tl : Nat → Bool) (i : Nat) (K : Fr → World → Prop) (fr : Fr) (w : World) : Prop :=
  match ops[i]? with
  | none => K fr w
  | some o => if wantedF ops o fr = true then stepV P (fun v w' => (tl i = true ∨ C w') ∧ K (putF fr o.dst v) w') ((execOp (ev fr) o).run P w) else K (putF fr o.dst undef) w
def anyF (P : Program) (ops : Array Oper) (C : World → Prop) (tl : Nat → Bool) (Q : Fr → World → Prop) : Nat → Array Bool → Fr → World → Prop
  | 0, listed, fr, w => Region.ready .any ops listed = [] ∧ Q fr w
  | fuel + 1, listed, fr, w =>
    (Region.ready .any ops listed = [] → Q fr w) ∧
    ∀ i ∈ Region.ready .any ops listed, opF P ops C tl i (anyF P ops C tl Q fuel (listed.setIfInBounds i true)) fr w

theorem opF_mono {i : Nat} {fr : Fr} {w : World} {K K' : Fr → World → Prop} (hk : ∀ fr w, (tl i = true ∨ C w) → K fr w → K' fr w) (hC : C w) (h : opF P ops C tl i K fr w) : opF P ops C tl i K' fr w := by
  unfold opF at *
  cases ho : ops[i]? with
  | none => rw [ho] at h; exact hk _ _ (.inr hC) h
  | some o =>
    rw [ho] at h
    simp only at h ⊢
    split
    · rename_i hw
      rw [if_pos hw] at h
      exact stepV_mono h fun v w' ⟨h1, h2⟩ => ⟨h1, hk _ _ h1 h2⟩
    · rename_i hw
      rw [if_neg hw] at h
      exact hk _ _ (.inr hC) h

/-- To the library's own words. -/
theorem any_sound {m : Nat} {r : Option Nat} {D : List Deferred} {n : Nat} {Q : Exit → Fr → World → Prop} (hall : ∀ o ∈ ops.toList, ∀ j, o.dst = some j → j < n) : ∀ (fuel : Nat) (listed : Array Bool) (fr : Fr) (w : World),
    anyF P ops C tl (Q .normal) fuel listed fr w → ∀ a, Rep D n fr a → wpAnyIn (fen r) m P .any ops (liftQ D n Q) fuel listed a w
  | 0, _, fr, w, h, a, hr => ⟨h.1, fr, hr, h.2⟩
  | fuel + 1, listed, fr, w, h, a, hr => by
    refine ⟨fun h0 => ⟨fr, hr, h.1 h0⟩, fun i hi => ?_⟩
    have hs := h.2 i hi
    unfold opF at hs
    unfold wpOpIn
    cases ho : ops[i]? with
    | none => rw [ho] at hs; exact any_sound hall fuel _ fr w hs a hr
    | some o =>
      rw [ho] at hs
      simp only at hs ⊢
      have hm : o ∈ ops.toList := by have := Array.mem_of_getElem? ho; simpa using this
      have hwd : Region.wanted o (yielded ops a.tmps) = wantedF ops o fr := by
        unfold Region.wanted wantedF
        cases hg : o.guard with
        | none => rfl
        | some g =>
          obtain ⟨j, want⟩ := g
          simp only
          congr 1
          unfold yieldF
          cases hsl : gslot ops j with
          | none => unfold gslot at hsl; simp [yielded, hsl]
          | some d =>
            have hdn : d < n := by
              unfold gslot at hsl
              cases hoj : ops[j]? with
              | none => rw [hoj] at hsl; simp at hsl
              | some oj =>
                rw [hoj] at hsl
                exact hall oj (by have := Array.mem_of_getElem? hoj; simpa using this) d (by simpa using hsl)
            exact yield_of hr hsl hdn
      rw [hwd]
      split
      · rename_i hw
        rw [if_pos hw] at hs
        refine Oper.wpIn_mono ?_ (raw_wp (K := fun fr' w' => anyF P ops C tl (Q .normal) fuel (listed.setIfInBounds i true) fr' w') (hall o hm) hr ?_)
        · rintro a' w' ⟨fr', hr', h'⟩
          exact any_sound hall fuel _ fr' w' h' a' hr'
        · rw [raw_step]
          exact stepV_mono hs fun v w' h => h.2
      · rename_i hw
        rw [if_neg hw] at hs
        exact ⟨fun _ _ => trivial, any_sound hall fuel _ _ w hs _ (hr.put _ (hall o hm) _)⟩

/-! ### Taking a quiet operation first -/
def Yq (P : Program) (ops : Array Oper) (C : World → Prop) (o : Oper) (v : Value) (fr : Fr) : Prop :=
  (wantedF ops o fr = true ∧ ∀ w, C w → (execOp (ev fr) o).run P w = .ok (.value v) w) ∨ (wantedF ops o fr = false ∧ v = undef)

theorem Yq.op {i : Nat} {o : Oper} {v : Value} {fr : Fr} {w : World} {K : Fr → World → Prop} (hi : ops[i]? = some o) (hy : Yq P ops C o v fr) (hC : C w) (h : K (putF fr o.dst v) w) : opF P ops C tl i K fr w := by
  unfold opF
  rw [hi]
  simp only
  rcases hy with ⟨hw, hv⟩ | ⟨hw, rfl⟩
  · rw [if_pos hw, hv w hC]
    exact ⟨.inr hC, h⟩
  · rw [if_neg (by simp [hw])]
    exact h

theorem putF_comm (fr : Fr) {x y : Option Tmp} (v u : Value) (h : ∀ d, x = some d → y ≠ some d) : putF (putF fr x v) y u = putF (putF fr y u) x v := by
  cases x with
  | none => rfl
  | some d =>
    cases y with
    | none => rfl
    | some e =>
      have hne : d ≠ e := fun he => h d rfl (he ▸ rfl)
      funext i
      simp only [putF]
      by_cases hi : i = e
      · subst hi
        rw [upd_same, upd_other _ _ (Ne.symm hne), upd_same]
      · rw [upd_other _ _ hi]
        by_cases hd : i = d
        · subst hd; rw [upd_same, upd_same]
        · rw [upd_other _ _ hd, upd_other _ _ hd, upd_other _ _ hi]
theorem ev_put {fr : Fr} {dst : Option Tmp} {v : Value} {x : Operand} (h : ∀ d, dst = some d → x ≠ .tmp d) : ev (putF fr dst v) x = ev fr x := by
  cases dst with
  | none => rfl
  | some d =>
    cases x with
    | tmp t => exact upd_other _ _ fun e => h d rfl (e ▸ rfl)
    | _ => rfl
theorem exec_put (o : Oper) (hs : ∀ cs b, o.op ≠ .select cs b) (fr : Fr) (dst : Option Tmp) (v : Value) (h : ∀ d, dst = some d → d ∉ o.looksAt ops) :
    execOp (ev (putF fr dst v)) o = execOp (ev fr) o :=
  execOp_congr o hs fun x hx => ev_put fun d hd hxd => h d hd (by
    subst hxd
    exact List.mem_append_left _ (List.mem_filterMap.2 ⟨.tmp d, by simpa using hx, rfl⟩))
theorem wantedF_put (o : Oper) (fr : Fr) (dst : Option Tmp) (v : Value) (h : ∀ d, dst = some d → d ∉ o.looksAt ops) : wantedF ops o (putF fr dst v) = wantedF ops o fr := by
  cases dst with
  | none => rfl
  | some d =>
    unfold wantedF
    cases hg : o.guard with
    | none => rfl
    | some gw =>
      obtain ⟨g, want⟩ := gw
      simp only
      congr 1
      unfold yieldF
      cases ht : gslot ops g with
      | none => rfl
      | some t =>
        have hne : t ≠ d := fun e => h d rfl (by subst e; simp [Oper.looksAt, hg, gslot] at ht ⊢; simp [ht])
        simp only [putF, upd_other _ _ hne]
theorem Yq.of_same {o : Oper} {v : Value} {fr fr' : Fr} (hy : Yq P ops C o v fr) (he : execOp (ev fr') o = execOp (ev fr) o) (hw : wantedF ops o fr' = wantedF ops o fr) : Yq P ops C o v fr' := by
  unfold Yq at *
  rw [he, hw]
  exact hy

theorem opF_put {j : Nat} {oi oj : Oper} {v : Value} (hj : ops[j]? = some oj) (hap : oi.apart ops oj = true) (hsi : ∀ cs b, oi.op ≠ .select cs b) (hsj : ∀ cs b, oj.op ≠ .select cs b)
    {K : Fr → World → Prop} {fr : Fr} {w : World} (hy : Yq P ops C oi v fr) (h : opF P ops C tl j K (putF fr oi.dst v) w) :
    opF P ops C tl j (fun fr' w' => Yq P ops C oi v fr' ∧ K (putF fr' oi.dst v) w') fr w := by
  obtain ⟨h1, h2, h3⟩ := Oper.apart_spec hap
  have keep : ∀ u, Yq P ops C oi v (putF fr oj.dst u) := fun u => hy.of_same (exec_put oi hsi fr oj.dst u h3) (wantedF_put oi fr oj.dst u h3)
  unfold opF at *
  rw [hj] at h ⊢
  simp only at h ⊢
  rw [wantedF_put oj fr oi.dst v h1, exec_put oj hsj fr oi.dst v h1] at h
  split
  · rename_i hw
    rw [if_pos hw] at h
    exact stepV_mono h fun u w' ⟨hc, hk⟩ => ⟨hc, keep u, by rw [← putF_comm fr v u h2]; exact hk⟩
  · rename_i hw
    rw [if_neg hw] at h
    exact ⟨keep _, by rw [← putF_comm fr v undef h2]; exact h⟩

/-! ### What must have been done before -/
inductive Reach (ops : Array Oper) (j : Nat) : Nat → Prop where
  | edge {oj : Oper} {e : Edge} (h : ops[j]? = some oj) (he : e ∈ oj.after) (hb : Region.binds .any e = true) : Reach ops j e.on
  | step {p : Nat} {op : Oper} {e : Edge} (r : Reach ops j p) (h : ops[p]? = some op) (he : e ∈ op.after) (hb : Region.binds .any e = true) : Reach ops j e.on
def Closed (ops : Array Oper) (listed : Array Bool) : Prop := ∀ (j : Nat) (oj : Oper), ops[j]? = some oj → listed.getD j false = true → ∀ e ∈ oj.after, Region.binds .any e = true → listed.getD e.on false = true
theorem getD_mono {listed : Array Bool} {i j : Nat} (h : listed.getD j false = true) : (listed.setIfInBounds i true).getD j false = true := by
  by_cases hij : i = j
  · subst hij
    have hl : i < listed.size := by
      rcases Nat.lt_or_ge i listed.size with h' | h'
      · exact h'
      · simp [Array.getElem?_eq_none h'] at h
    simp [hl]
  · rw [getD_set_ne false hij]
    exact h
theorem Closed.put {listed : Array Bool} {i : Nat} (hc : Closed ops listed) (hi : i ∈ Region.ready .any ops listed) : Closed ops (listed.setIfInBounds i true) := by
  intro j oj hoj hl e he hb
  apply getD_mono
  by_cases hij : i = j
  · subst hij
    obtain ⟨_, o, ho, hall⟩ := mem_ready.1 hi
    rw [ho] at hoj
    cases hoj
    exact hall e he hb
  · rw [getD_set_ne false hij] at hl
    exact hc j oj hoj hl e he hb
theorem Reach.listed {listed : Array Bool} {j k : Nat} (r : Reach ops j k) (hc : Closed ops listed) (hj : j ∈ Region.ready .any ops listed) : listed.getD k false = true := by
  induction r with
  | edge h he hb =>
    obtain ⟨_, o, ho, hall⟩ := mem_ready.1 hj
    rw [ho] at h
    cases h
    exact hall _ he hb
  | step r h he hb ih => exact hc _ _ h ih _ he hb
def predsOf (ops : Array Oper) (i : Nat) : List Nat := match ops[i]? with
  | some o => (o.after.toList.filter fun e => Region.binds .any e).map (·.on)
  | none => []
theorem predsOf_mem {i k : Nat} (h : k ∈ predsOf ops i) : ∃ o e, ops[i]? = some o ∧ e ∈ o.after ∧ Region.binds .any e = true ∧ e.on = k := by
  unfold predsOf at h
  cases ho : ops[i]? with
  | none => rw [ho] at h; cases h
  | some o =>
    rw [ho] at h
    obtain ⟨e, he, rfl⟩ := List.mem_map.1 h
    obtain ⟨he, hb⟩ := List.mem_filter.1 he
    exact ⟨o, e, rfl, by simpa using he, hb, rfl⟩
def ancs (ops : Array Oper) (j : Nat) : List Nat := (List.range ops.size).reverse.foldl (fun S i => if (i == j || S.contains i) = true then predsOf ops i ++ S else S) []
theorem ancs_fold (j : Nat) : ∀ (l S : List Nat), (∀ k ∈ S, Reach ops j k) → ∀ k ∈ l.foldl (fun S i => if (i == j || S.contains i) = true then predsOf ops i ++ S else S) S, Reach ops j k
  | [], _, hS => hS
  | i :: l, S, hS => by
    rw [List.foldl_cons]
    apply ancs_fold j l
    split
    · rename_i h
      intro k hk
      rcases List.mem_append.1 hk with hk | hk
      · obtain ⟨o, e, ho, he, hb, rfl⟩ := predsOf_mem hk
        simp only [Bool.or_eq_true, beq_iff_eq, List.contains_iff_mem] at h
        rcases h with rfl | h
        · exact .edge ho he hb
        · exact .step (hS _ h) ho he hb
      · exact hS k hk
    · exact hS
theorem ancs_mem {j k : Nat} (h : k ∈ ancs ops j) : Reach ops j k := ancs_fold j _ _ (fun _ h => by cases h) k h

theorem any_first {i : Nat} {oi : Oper} {v : Value} (hi : ops[i]? = some oi) (hsel : ∀ (j : Nat) (o : Oper) cs b, ops[j]? = some o → o.op ≠ .select cs b)
    (htl : ∀ j, j < ops.size → tl j = true → ∀ k, k ≠ j → k < ops.size → Reach ops j k) :
    ∀ (fuel : Nat) (listed : Array Bool) (fr : Fr) (w : World), Closed ops listed →
      (∀ j oj, ops[j]? = some oj → j ≠ i → listed.getD j true = false → (∀ e ∈ oj.after, Region.binds .any e = true → e.on ≠ i) → oi.apart ops oj = true) →
      i ∈ Region.ready .any ops listed → C w → Yq P ops C oi v fr →
      anyF P ops C tl Q fuel (listed.setIfInBounds i true) (putF fr oi.dst v) w → anyF P ops C tl Q (fuel + 1) listed fr w := by
  intro fuel
  induction fuel with
  | zero =>
    intro listed fr w _ _ hr hC hy H
    refine ⟨fun h => (by rw [h] at hr; cases hr), fun j hj => ?_⟩
    by_cases hji : j = i
    · subst hji; exact hy.op hi hC H
    · have := ready_mono hj hji
      rw [H.1] at this
      cases this
  | succ fuel ih =>
    intro listed fr w hcl hfree hr hC hy H
    refine ⟨fun h => (by rw [h] at hr; cases hr), fun j hj => ?_⟩
    by_cases hji : j = i
    · subst hji; exact hy.op hi hC H
    · have h1 := H.2 j (ready_mono hj hji)
      obtain ⟨hjun, oj, hoj, hall⟩ := mem_ready.1 hj
      have hnot : ∀ e ∈ oj.after, Region.binds .any e = true → e.on ≠ i := fun e he hb heq => by
        have h1 := hall e he hb
        have h0 := (mem_ready.1 hr).1
        rw [heq] at h1
        rcases Nat.lt_or_ge i listed.size with h' | h'
        · simp [h'] at h0 h1; rw [h0] at h1; cases h1
        · simp [Array.getElem?_eq_none h'] at h1
      have hjt : tl j = false := by
        cases ht : tl j with
        | false => rfl
        | true =>
          have h1 := (htl j (Array.getElem?_eq_some_iff.1 hoj).1 ht i (Ne.symm hji) (Array.getElem?_eq_some_iff.1 hi).1).listed hcl hj
          have h0 := (mem_ready.1 hr).1
          exfalso
          rcases Nat.lt_or_ge i listed.size with h' | h'
          · simp [h'] at h0 h1; rw [h0] at h1; cases h1
          · simp [Array.getElem?_eq_none h'] at h1
      have h2 := opF_put hoj (hfree j oj hoj hji hjun hnot) (fun cs b => hsel i oi cs b hi) (fun cs b => hsel j oj cs b hoj) hy h1
      have hfree' : ∀ k ok, ops[k]? = some ok → k ≠ i → (listed.setIfInBounds j true).getD k true = false →
          (∀ e ∈ ok.after, Region.binds .any e = true → e.on ≠ i) → oi.apart ops ok = true := fun k ok hk hki hun hno => by
        refine hfree k ok hk hki ?_ hno
        by_cases hjk : j = k
        · subst hjk; exact hjun
        · rw [getD_set_ne true hjk] at hun; exact hun
      refine opF_mono (fun fr' w' hc h3 => ?_) hC h2
      have hC' : C w' := by rw [hjt] at hc; simpa using hc
      refine ih (listed.setIfInBounds j true) fr' w' (hcl.put hj) hfree' (ready_mono hr (Ne.symm hji)) hC' h3.1 ?_
      rw [Array.setIfInBounds_comm _ _ hji]
      exact h3.2

/-! ### The way -/
def loadNC (C : World → Prop) (a : Addr) : Nat → Nat → List Value → (List Value → Prop) → Prop
  | 0, _, acc, K => K acc
  | n + 1, i, acc, K => ∃ v, (∀ w, C w → w.cell? (a.add i) = some v) ∧ loadNC C a n (i + 1) (acc ++ [v]) K
def evLoadC (T : Tab) (C : World → Prop) (t : TypeId) (x : Value) (put : Value → Prop) : Prop :=
  withPtr x fun a => match T t with
  | none => False
  | some ti => match isAggD ti.desc with
    | true => loadNC C a ti.size 0 [] fun vs => put (.agg vs.toArray)
    | false => typed ti.desc fun v => (∀ w, C w → w.cell? a = some v) ∧ put v
/-- A quiet operation: one value in every world of the class. -/
def evQ (P : Program) (T : Tab) (C : World → Prop) (o : Oper) (fr : Fr) (put : Value → Prop) : Prop :=
  evPure P T o fr put (match o.op with
  | .load t a => evLoadC T C t (ev fr a) put
  | .convert src dst x => evStrOf T src dst (ev fr x) (fun A vs => ∀ w, C w → Row w A vs) put (∃ v, (∀ w, C w → (execOp (ev fr) o).run P w = .ok (.value v) w) ∧ put v)
  | _ => ∃ v, (∀ w, C w → (execOp (ev fr) o).run P w = .ok (.value v) w) ∧ put v)
def guardF (ops : Array Oper) (o : Oper) (fr : Fr) (yes no : Fr → Prop) : Prop := match o.guard with
  | none => yes fr
  | some (j, want) => match gslot ops j with
    | none => no fr
    | some d => match fr d with
      | .bool b => (match want with
        | true => condB b (yes (upd fr d (.bool true))) (no (upd fr d (.bool false)))
        | false => condB b (no (upd fr d (.bool true))) (yes (upd fr d (.bool false))))
      | _ => no fr
/-- What acts and is not opened here ('append', 'make'): a mark that the unifier stops at. -/
structure Eff (p : Prop) : Prop where
  out : p
theorem eff_ {p : Prop} (h : p) : Eff p := ⟨h⟩
theorem eff_app {P : Program} {T : Tab} {F : FuncId → Bool} {o : Oper} {c : Call} {b : Builtin} {fr : Fr} {w : World} {K : Fr → World → Prop} (ho : o.op = .call c) (hc : c.callee = .builtin b) (hl : ∀ put : Value → Prop, ∀ other : Prop, evPure P T o fr put other = other) (h : raw P o fr w K) : Eff (evOp P T F o fr w K) := by
  refine ⟨?_⟩
  unfold evOp
  rw [hl, ho]
  simp only [hc]
  exact h
def isRaw (o : Oper) : Bool := match o.op with
  | .call c => (match c.callee with
    | .builtin _ => true
    | _ => false)
  | .makeSlice _ _ _ => true
  | .buildSlice _ 1 #[(0, .tmp _)] => true
  | .mapUpdate _ _ _ _ => true
  | .makeMap _ _ => true
  | _ => false
def markRaw (o : Oper) (p : Prop) : Prop := match isRaw o with
  | true => Eff p
  | false => p
theorem markRaw_out {o : Oper} {p : Prop} (h : markRaw o p) : p := by
  unfold markRaw at h
  split at h
  · exact h.out
  · exact h
def evPlan (P : Program) (T : Tab) (F : FuncId → Bool) (ops : Array Oper) (C : World → Prop) (tl : Nat → Bool) (Q : Fr → World → Prop) : Plan → Fr → World → Prop
  | .done, fr, w => Q fr w
  | .q i p, fr, w => (match ops.toList[i]? with
    | none => False
    | some o => guardF ops o fr (fun fr => evQ P T C o fr fun v => evPlan P T F ops C tl Q p (putF fr o.dst v) w) (fun fr => evPlan P T F ops C tl Q p (putF fr o.dst undef) w))
  | .e i p, fr, w => (match ops.toList[i]? with
    | none => False
    | some o => guardF ops o fr (fun fr => markRaw o (evOp P T F o fr w fun fr w => (match tl i with
        | true => evPlan P T F ops C tl Q p fr w
        | false => ∃ C' : World → Prop, (∀ w, C' w → C w) ∧ C' w ∧ evPlan P T F ops C' tl Q p fr w))) (fun fr => evPlan P T F ops C tl Q p (putF fr o.dst undef) w))
  | .br a b, fr, w => evPlan P T F ops C tl Q a fr w ∧ evPlan P T F ops C tl Q b fr w

def Plan.heads : Plan → List Nat
  | .e i _ => [i]
  | .br a b => a.heads ++ b.heads
  | _ => []
def Plan.isDone : Plan → Bool
  | .done => true
  | _ => false
/-- The plan goes through every order ('top': the steps are asked to be all that may act now). -/
def planOk (ops : Array Oper) (tl : Nat → Bool) : Plan → Bool → Nat → Array Bool → Bool
  | .done, top, _, listed => top && (Region.ready .any ops listed).isEmpty
  | .q i p, top, fuel, listed => (match fuel with
    | 0 => false
    | f + 1 => top && (Region.ready .any ops listed).contains i && Region.free .any ops listed i && planOk ops tl p true f (listed.setIfInBounds i true))
  | .e i p, top, fuel, listed => (match fuel with
    | 0 => false
    | f + 1 => (!top || (!(Region.ready .any ops listed).isEmpty && (Region.ready .any ops listed).all (fun j => j == i))) && (!tl i || p.isDone) && planOk ops tl p true f (listed.setIfInBounds i true))
  | .br a b, top, fuel, listed => (!top || (!(Region.ready .any ops listed).isEmpty && (Region.ready .any ops listed).all (fun j => (a.heads ++ b.heads).contains j))) && planOk ops tl a false fuel listed && planOk ops tl b false fuel listed

def tailOk (ops : Array Oper) (tl : Nat → Bool) : Bool :=
  (List.range ops.size).all fun j => !tl j || (List.range ops.size).all fun k => k == j || (ancs ops j).contains k

theorem tailOk_spec (h : tailOk ops tl = true) (j : Nat) (hjs : j < ops.size) (ht : tl j = true) (k : Nat) (hk : k ≠ j) (hks : k < ops.size) : Reach ops j k := by
  have h1 := List.all_eq_true.mp h j (List.mem_range.2 hjs)
  simp only [ht, Bool.not_true, Bool.false_or] at h1
  have h2 := List.all_eq_true.mp h1 k (List.mem_range.2 hks)
  simp only [Bool.or_eq_true, beq_iff_eq, hk, false_or, List.contains_iff_mem] at h2
  exact ancs_mem h2

theorem guardF_of {o : Oper} {fr : Fr} {yes no : Fr → Prop} (h : guardF ops o fr yes no) : (wantedF ops o fr = true ∧ yes fr) ∨ (wantedF ops o fr = false ∧ no fr) := by
  unfold guardF at h
  unfold wantedF
  cases hg : o.guard with
  | none => rw [hg] at h; exact .inl ⟨rfl, h⟩
  | some g =>
    obtain ⟨j, want⟩ := g
    rw [hg] at h
    simp only at h ⊢
    unfold yieldF
    cases hs : gslot ops j with
    | none => rw [hs] at h; exact .inr ⟨rfl, h⟩
    | some d =>
      rw [hs] at h
      simp only at h ⊢
      cases hv : fr d <;> rw [hv] at h <;> simp only at h ⊢
      case bool b =>
        have e : ∀ t, b = t → upd fr d (.bool t) = fr := by
          rintro t rfl
          exact (upd_self hv).symm
        cases want <;> cases b
        · exact .inl ⟨by simp, by rw [← e _ rfl]; exact h⟩
        · exact .inr ⟨by simp, by rw [← e _ rfl]; exact h⟩
        · exact .inr ⟨by simp, by rw [← e _ rfl]; exact h⟩
        · exact .inl ⟨by simp, by rw [← e _ rfl]; exact h⟩
      all_goals exact .inr ⟨by simp, h⟩

theorem loadNC_run {C : World → Prop} {a : Addr} : ∀ (n i : Nat) (acc : List Value) {K : List Value → Prop}, loadNC C a n i acc K → ∃ vs, (∀ w, C w → (loadCellsFrom a i n acc.toArray).run P w = .ok vs.toArray w) ∧ K vs
  | 0, _, acc, _, h => ⟨acc, fun _ _ => rfl, h⟩
  | n + 1, i, acc, K, h => by
    obtain ⟨v, hv, h⟩ := h
    obtain ⟨vs, hr, hk⟩ := loadNC_run n (i + 1) _ h
    refine ⟨vs, fun w hw => ?_, hk⟩
    simp only [loadCellsFrom, Sem.run_bind, run_load, hv w hw, Result.andThen_ok]
    rw [← hr w hw]
    simp
theorem evLoadC_sound (hT : TabOk P T F) {t : TypeId} {x : Value} {put : Value → Prop} (h : evLoadC T C t x put) :
    ∃ v, (∀ w, C w → (Instr.loadAt t x).run P w = .ok v w) ∧ put v := by
  replace h := withPtr_of h
  obtain ⟨a, rfl, h⟩ := h
  cases ht : T t with
  | none => rw [ht] at h; exact h.elim
  | some ti =>
    rw [ht] at h
    simp only at h
    cases hb : isAggD ti.desc with
    | true =>
      rw [hb] at h
      obtain ⟨vs, hr, hk⟩ := loadNC_run (P := P) _ _ _ h
      refine ⟨_, fun w hw => ?_, hk⟩
      simp only [Instr.loadAt, Instr.sureAddr, loadVar, Sem.run_bind, Sem.run_pure, Result.andThen_ok, isAgg_run hT ht, hb, if_true, sizeOf_eq hT ht, loadCells]
      have hr' : (loadCellsFrom a 0 ti.size #[]).run P w = .ok vs.toArray w := hr w hw
      rw [hr']
      rfl
    | false =>
      rw [hb] at h
      replace h := typed_of h
      obtain ⟨v, hv, hk⟩ := h
      refine ⟨v, fun w hw => ?_, hk⟩
      simp [Instr.loadAt, Instr.sureAddr, loadVar, isAgg_run hT ht, hb, hv w hw]
theorem evQ_sound (hT : TabOk P T F) {o : Oper} {fr : Fr} {put : Value → Prop} (h : evQ P T C o fr put) : ∃ v, (∀ w, C w → (execOp (ev fr) o).run P w = .ok (.value v) w) ∧ put v := by
  unfold evQ at h
  rcases evPure_sound (P := P) hT h with ⟨v, hv, hk⟩ | h
  · exact ⟨v, fun w _ => hv w, hk⟩
  split at h
  · rename_i t a ho
    obtain ⟨v, hr, hk⟩ := evLoadC_sound (P := P) hT h
    exact ⟨v, fun w hw => by simp [execOp, ho, hr w hw], hk⟩
  · rename_i src dst x ho
    have key : (∃ v, (∀ w, C w → (convert src dst (ev fr x)).run P w = .ok v w) ∧ put v) ∨ (∃ v, (∀ w, C w → (execOp (ev fr) o).run P w = .ok (.value v) w) ∧ put v) := by
      generalize ev fr x = u at h
      cases u <;> simp only [evStrOf] at h <;> try exact .inr h
      rename_i A n c
      cases hs : T src with
      | none => rw [hs] at h; exact h.elim
      | some si =>
        rw [hs] at h
        simp only at h
        cases hsd : si.desc <;> rw [hsd] at h <;> simp only at h <;> try exact .inr h
        rename_i e
        cases he : T e with
        | none => rw [he] at h; exact h.elim
        | some te =>
          rw [he] at h
          simp only at h
          split at h <;> try exact .inr h
          rename_i hk
          cases hd : T dst with
          | none => rw [hd] at h; exact h.elim
          | some di =>
            rw [hd] at h
            simp only at h
            cases hdd : di.desc <;> rw [hdd] at h <;> (try simp only at h) <;> try exact .inr h
            obtain ⟨bs, hl, hr, hp⟩ := h
            refine .inl ⟨.string ⟨bs.toArray⟩, fun w hw => ?_, hp⟩
            have hh : evStrOf T src dst (.slice A n c) (fun A vs => Row w A vs) (fun v => v = .string ⟨bs.toArray⟩) False := by
              simp only [evStrOf, hs, hsd, he, hk, hd, hdd]
              exact ⟨bs, hl, hr w hw, rfl⟩
            rcases evStrOf_sound (P := P) hT hh with ⟨v, hv, rfl⟩ | hf
            · exact hv
            · exact hf.elim
    rcases key with ⟨v, hv, hk⟩ | h
    · exact ⟨v, fun w hw => by simp [execOp, ho, hv w hw], hk⟩
    · exact h
  · exact h

theorem plan_heads {i : Nat} : ∀ (p : Plan) (fuel : Nat) (listed : Array Bool) {fr : Fr} {w : World}, planOk ops tl p false fuel listed = true → i ∈ p.heads → evPlan P T F ops C tl Q p fr w →
    ∃ p', evPlan P T F ops C tl Q (.e i p') fr w ∧ ∃ f, fuel = f + 1 ∧ (tl i = true → p' = .done) ∧ planOk ops tl p' true f (listed.setIfInBounds i true) = true
  | .done, fuel, listed, fr, w, h, hi, _ => by simp [planOk] at h
  | .q j p, fuel, listed, fr, w, h, hi, _ => by cases fuel <;> simp [planOk] at h
  | .e j p, fuel, listed, fr, w, h, hi, he => by
    obtain rfl : i = j := by simpa [Plan.heads] using hi
    cases fuel with
    | zero => simp [planOk] at h
    | succ f =>
      simp only [planOk, Bool.not_false, Bool.true_or, Bool.true_and, Bool.and_eq_true, Bool.or_eq_true, Bool.not_eq_true'] at h
      refine ⟨p, he, f, rfl, fun ht => ?_, h.2⟩
      rcases h.1 with h1 | h1
      · rw [ht] at h1; cases h1
      · cases p <;> simp [Plan.isDone] at h1 ⊢
  | .br a b, fuel, listed, fr, w, h, hi, he => by
    simp only [planOk, Bool.not_false, Bool.true_or, Bool.true_and, Bool.and_eq_true] at h
    simp only [Plan.heads, List.mem_append] at hi
    rcases hi with hi | hi
    · exact plan_heads a fuel listed h.1 hi he.1
    · exact plan_heads b fuel listed h.2 hi he.2

theorem anyF_weak {C C' : World → Prop} (hc : ∀ w, C' w → C w) : ∀ (fuel : Nat) (listed : Array Bool) (fr : Fr) (w : World), anyF P ops C' tl Q fuel listed fr w → anyF P ops C tl Q fuel listed fr w := by
  intro fuel
  induction fuel with
  | zero => intro listed fr w h; exact h
  | succ fuel ih =>
    intro listed fr w h
    refine ⟨h.1, fun i hi => ?_⟩
    have h2 := h.2 i hi
    unfold opF at h2 ⊢
    cases ho : ops[i]? with
    | none => rw [ho] at h2; exact ih _ _ _ h2
    | some o =>
      rw [ho] at h2
      simp only at h2 ⊢
      split
      · rename_i hw
        rw [if_pos hw] at h2
        exact stepV_mono h2 fun v w' hk => ⟨hk.1.imp id (hc w'), ih _ _ _ hk.2⟩
      · rename_i hw
        rw [if_neg hw] at h2
        exact ih _ _ _ h2
theorem plan_sound (hT : TabOk P T F) (hsel : Region.noSelect ops = true) (htl : tailOk ops tl = true) : ∀ (fuel : Nat) (C : World → Prop) (p : Plan) (listed : Array Bool) (fr : Fr) (w : World), Closed ops listed → planOk ops tl p true fuel listed = true → (p = .done ∨ C w) →
    evPlan P T F ops C tl Q p fr w → anyF P ops C tl Q fuel listed fr w := by
  intro fuel
  induction fuel with
  | zero =>
    intro C p listed fr w hcl h hC he
    cases p with
    | done =>
      simp only [planOk, Bool.true_and, List.isEmpty_iff] at h
      exact ⟨h, he⟩
    | q i p => simp [planOk] at h
    | e i p => simp [planOk] at h
    | br a b =>
      simp only [planOk, Bool.and_eq_true] at h
      exfalso
      have hh : ∀ (p : Plan), planOk ops tl p false 0 listed = true → False := by
        intro p
        induction p with
        | done => intro h; simp [planOk] at h
        | q i p => intro h; simp [planOk] at h
        | e i p => intro h; simp [planOk] at h
        | br a b iha _ => intro h; simp only [planOk, Bool.and_eq_true] at h; exact iha h.1.2
      exact hh a h.1.2
  | succ fuel ih =>
    intro C p listed fr w hcl h hC he
    have eff : ∀ i p', evPlan P T F ops C tl Q (.e i p') fr w → (tl i = true → p' = .done) → Closed ops (listed.setIfInBounds i true) → planOk ops tl p' true fuel (listed.setIfInBounds i true) = true → C w → opF P ops C tl i (anyF P ops C tl Q fuel (listed.setIfInBounds i true)) fr w := by
      intro i p' he htd hcl' hok hC
      unfold evPlan at he
      unfold opF
      have e1 : ops.toList[i]? = ops[i]? := by simp
      rw [e1] at he
      cases ho : ops[i]? with
      | none => rw [ho] at he; exact he.elim
      | some o =>
        rw [ho] at he
        simp only at he ⊢
        rcases guardF_of he with ⟨hw, he⟩ | ⟨hw, he⟩
        · rw [if_pos hw]
          have := evOp_sound hT (markRaw_out he)
          rw [raw_step] at this
          refine stepV_mono this fun v w' hk => ?_
          cases ht : tl i with
          | true =>
            rw [ht] at hk
            exact ⟨.inl rfl, ih C p' _ _ _ hcl' hok (.inl (htd ht)) hk⟩
          | false =>
            rw [ht] at hk
            obtain ⟨C', hc, hC', hk⟩ := hk
            exact ⟨.inr (hc _ hC'), anyF_weak hc _ _ _ _ (ih C' p' _ _ _ hcl' hok (.inr hC') hk)⟩
        · rw [if_neg (by simp [hw])]
          exact ih C p' _ _ _ hcl' hok (.inr hC) he
    cases p with
    | done =>
      simp only [planOk, Bool.true_and, List.isEmpty_iff] at h
      exact ⟨fun _ => he, fun i hi => by rw [h] at hi; cases hi⟩
    | q i p =>
      replace hC : C w := hC.resolve_left (by simp)
      simp only [planOk, Bool.true_and, Bool.and_eq_true] at h
      obtain ⟨⟨hr, hf⟩, hok⟩ := h
      unfold evPlan at he
      have e1 : ops.toList[i]? = ops[i]? := by simp
      rw [e1] at he
      cases ho : ops[i]? with
      | none => rw [ho] at he; exact he.elim
      | some o =>
        rw [ho] at he
        simp only at he
        have go : ∀ v, Yq P ops C o v fr → evPlan P T F ops C tl Q p (putF fr o.dst v) w → anyF P ops C tl Q (fuel + 1) listed fr w := by
          intro v hy hk
          exact any_first ho (Region.noSelect_spec hsel) (tailOk_spec htl) fuel listed fr w hcl (Region.free_spec ho hf) (by simpa using hr) hC hy (ih C p _ _ _ (hcl.put (by simpa using hr)) hok (.inr hC) hk)
        rcases guardF_of he with ⟨hw, he⟩ | ⟨hw, he⟩
        · obtain ⟨v, hv, hk⟩ := evQ_sound hT he
          exact go v (.inl ⟨hw, hv⟩) hk
        · exact go undef (.inr ⟨hw, rfl⟩) he
    | e i p =>
      replace hC : C w := hC.resolve_left (by simp)
      simp only [planOk, Bool.not_true, Bool.false_or, Bool.and_eq_true, List.all_eq_true, beq_iff_eq, Bool.or_eq_true, Bool.not_eq_true', List.isEmpty_eq_false_iff] at h
      obtain ⟨⟨⟨hne, hr⟩, htd⟩, hok⟩ := h
      have htd' : tl i = true → p = .done := by
        intro ht
        rcases htd with h1 | h1
        · rw [ht] at h1; cases h1
        · cases p <;> simp [Plan.isDone] at h1 ⊢
      refine ⟨fun h0 => ?_, fun j hj => ?_⟩
      · exact absurd h0 hne
      · obtain rfl := hr j hj
        exact eff _ _ he htd' (hcl.put hj) hok hC
    | br a b =>
      replace hC : C w := hC.resolve_left (by simp)
      simp only [planOk, Bool.not_true, Bool.false_or, Bool.and_eq_true, List.all_eq_true, Bool.not_eq_true', List.isEmpty_eq_false_iff] at h
      refine ⟨fun h0 => ?_, fun j hj => ?_⟩
      · exact absurd h0 h.1.1.1
      · have hi' : j ∈ (Plan.br a b).heads := by simpa [Plan.heads] using h.1.1.2 j hj
        obtain ⟨p', he', f, hf, htd, hok⟩ := plan_heads (P := P) (T := T) (F := F) (C := C) (Q := Q) (.br a b) (fuel + 1) listed (by simp [planOk, h.1.2, h.2]) hi' he
        obtain rfl : f = fuel := by omega
        exact eff _ _ he' htd (hcl.put hj) hok hC
/-- A region that draws, by its plan; 'C': what stays of the world. -/
theorem draw_ (hT : TabOk P T F) (p : Plan) (tls : List Nat) (C : World → Prop) {n id : Nat} {ops : Array Oper} {Q : Exit → Fr → World → Prop} {fr : Fr} {w : World} (hm : P.follows .mixedOrders = true) (hsel : Region.noSelect ops = true)
    (hd : codeOk n (.region id ops true) = true) (htl : tailOk ops (tls.contains ·) = true) (hp : planOk ops (tls.contains ·) p true ops.size (Array.replicate ops.size false) = true) (hC : C w.drew)
    (h : evPlan P T F ops C (tls.contains ·) (Q .normal) p fr w.drew) : rawC P n (.region id ops true) Q fr w := by
  intro m r D a hr
  refine wpIn_region_any hm (any_sound (C := C) (tl := (tls.contains ·)) ?_ _ _ fr w.drew (plan_sound hT hsel htl _ C p _ _ _ (by intro j oj _ h; simp [Array.getD_eq_getD_getElem?, Array.getElem?_replicate] at h; split at h <;> simp at h) hp (.inr hC) h) a hr)
  intro o ho
  exact dst_ok (List.all_eq_true.mp hd o ho)
end
end Go.Proofs.YtdcaafldnbcdkaaGreatDoor.Eng
