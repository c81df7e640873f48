/- Ranges over functions, for the engine: a round; the statement; the end of a function that holds one. -/
import Derived.Test.YtpcoleeggeahlaaDoorMem3
import Derived.RangeFuncOwn
namespace Go.Proofs.YtpcoleeggeahlaaDoor.Eng
open Go
section
variable {P : Program} {T : Tab} {F : FuncId → Bool}
theorem Mod.put (w : World) (l : Nat) (o : Obj) : Mod (fun k => k = l) w (w.putObj l o) :=
  (Mod.grown (grownBy_putObj' w l o)).mono fun _ _ h => by injection h
/-- A call of yield: a round. -/
theorem raw_yield {o : Oper} {c : Call} {f : Operand} {fr : Fr} {w : World} {K : Fr → World → Prop} {l m : Nat} {args : Array Value} {R : Ending → World → Prop} (ho : o.op = .call c) (hc : c.callee = .value f) (hf : ev fr f = .func (.yield l) #[] #[]) (hl : c.args.toList.map (ev fr) = args.toList)
    (hy : YieldAt Fence.wide m P l args w R) (hk : ∀ e w', R e w' → ∃ v, e = .returned v ∧ K (putF fr o.dst v) w') : raw P o fr w K := by
  obtain ⟨fn, tmps, assign, body, hrun, hR⟩ := hy
  have ha : c.args.map (ev fr) = args := by
    apply Array.ext'
    simpa using hl
  unfold raw
  have hx : (execOp (ev fr) o).run P w = .ok (.round l fn tmps assign body) w := by
    simp [execOp, ho, resolve, hc, hf, ha, invoke, Sem.run_bind, Deferred.ofValue, hrun]
  rw [hx]
  exact RoundIn.mono ⟨hR.1, fun c cs _ => hR.2 c cs (room_wide _)⟩ hk
/-- A round, by its body. -/
theorem yield_den (hT : TabOk P T F) {l n : Nat} {L : Loop} {A : World} {frR : Fr} {args : Array Value} {R : Ending → World → Prop} (hl : A.heap[l]? = some (.loop L)) (hready : L.state = .ready) (hs : args.size = L.params.size)
    (hrep : Rep [] n frR { tmps := (L.params.zip args).foldl (fun tmps (t, a) => tmps.setIfInBounds t a) L.tmps, defers := [] }) (hoka : codeOk n L.assign = true) (hokb : codeOk n L.body = true)
    (h : den P T F n L.assign (thenF (fun fr1 w1 => w1.heap[l]? = some (.loop L) ∧ den P T F n L.body (fun e _ w2 => e = .normal ∧ w2.heap[l]? = some (.loop { L with state := .busy }) ∧ R (.returned (.bool true)) (w2.putObj l (.loop { L with state := .ready, pending := none }))) fr1 (w1.putObj l (.loop { L with state := .busy }))) (fun _ _ _ => False)) frR A) : YieldAt Fence.wide 0 P l args A R := by
  refine ⟨L.fn, _, L.assign, L.body, run_yield hl hs, roundIn_of_wpIn trivial ?_⟩
  refine wpIn_mono (den_sound (mm := 0) (r := some l) (D := []) hT L.assign _ frR A hoka h _ hrep) ?_
  rintro e a1 w1 ⟨fr1, hr1, hq⟩
  cases e with
  | normal =>
    obtain ⟨hl1, hden⟩ := hq
    refine ⟨_, run_beginRound hl1 hready, wpIn_mono (den_sound (mm := 0) (r := some l) (D := []) hT L.body _ fr1 _ hokb hden a1 hr1) ?_⟩
    rintro e2 a2 w2 ⟨fr2, hr2, rfl, hl2, hR⟩
    exact ⟨_, _, run_endRound none hl2, hR⟩
  | exit id => exact hq.elim
  | goto t => exact hq.elim
  | ret => exact hq.elim
  | panic c => exact hq.elim
  | outgrown => exact hq.elim
/-- The statement. -/
theorem range_ {g : Operand} {ps : Array Tmp} {assign body : Code} {Q : Exit → Act → World → Prop} {a : Act} {w : World} {m gf : Nat} {lb : Array Value} (hg : a.eval g = .func (.func gf) #[] lb) (eg : ∀ args w, (callFunc gf args).run P w = .ok (.enter gf args) w)
    (h : ∀ fn, Calls P gf (#[.func (.yield (w.heap.size + 1)) #[] #[]] ++ lb) ((w.alloc (.deferred (some []))).alloc (.loop { state := .ready, pending := none, fn, tmps := a.tmps, params := ps, assign, body, defers := w.heap.size })) fun e w3 =>
      ∃ v L, e = .returned v ∧ w3.heap[w.heap.size + 1]? = some (.loop L) ∧ L.state ≠ .busy ∧ L.pending = none ∧ Q .normal { a with defers := { target := .collected w.heap.size, args := #[] } :: a.defers } (w3.putObj (w.heap.size + 1) (.loop { L with state := .exhausted }))) :
    (Code.rangeFunc g ps assign body).wpIn Fence.wide m P Q a w := by
  refine wpIn_rangeFunc ?_
  intro fn _
  have hc := h fn
  have hen := run_enterLoop_outer (P := P) (w := w) fn a.tmps ps assign body
  generalize (w.alloc (.deferred (some []))).alloc (.loop { state := .ready, pending := none, fn, tmps := a.tmps, params := ps, assign, body, defers := w.heap.size }) = W1 at hc hen
  refine ⟨w.heap.size + 1, [{ target := .collected w.heap.size, args := #[] }], W1, { target := .fn (.func gf) lb, args := #[.func (.yield (w.heap.size + 1)) #[] #[]] }, W1, gf,
    #[.func (.yield (w.heap.size + 1)) #[] #[]] ++ lb, W1, hen, ?_, fun _ _ => trivial, ?_, (fun h => by cases h), ?_⟩
  · simp only [resolve, hg]
    simp [go_sem]
  · simp [invoke, go_sem, eg]
  · refine callsIn_wide.2 (hc.mono ?_)
    rintro e w3 ⟨v, L, rfl, hL, hb, hp, hQ⟩
    have he := run_endLoop (P := P) hL hb
    obtain ⟨st, pend, lfn, lt, lp, la, lb', ld⟩ := L
    simp only at hp
    subst hp
    exact ⟨none, _, he, hQ⟩
/-- Code ahead of such a statement. -/
theorem seq_den (hT : TabOk P T F) {A B : Code} {K : Fr → World → Prop} {Q : Exit → Act → World → Prop} {D : List Deferred} {n m : Nat} {fr : Fr} {a : Act} {w : World} (hA : codeOk n A = true) (hr : Rep D n fr a)
    (h : den P T F n A (thenF K (fun _ _ _ => False)) fr w) (hB : ∀ fr' a' w', Rep D n fr' a' → K fr' w' → B.wpIn Fence.wide m P Q a' w') : (A.seq B).wpIn Fence.wide m P Q a w := by
  refine wpIn_seq (wpIn_mono (den_sound (mm := m) (r := none) (D := D) hT A _ fr w hA h a hr) ?_)
  rintro e a' w' ⟨fr', hr', hq⟩
  cases e with
  | normal => exact hB fr' a' w' hr' hq
  | exit id => exact hq.elim
  | goto t => exact hq.elim
  | ret => exact hq.elim
  | panic c => exact hq.elim
  | outgrown => exact hq.elim
/-- The same, at the slots that are named. -/
theorem seq_denL (hT : TabOk P T F) {σ : Type} {A B : Code} {Q : Exit → Act → World → Prop} {D : List Deferred} {n m : Nat} {fr : Fr} {a : Act} {w : World} (L : σ → List (Nat × Value)) (J : σ → World → Prop) (hA : codeOk n A = true) (hr : Rep D n fr a)
    (h : ∀ K : Fr → World → Prop, (∀ s fr' w', Slots fr' (L s) → J s w' → K fr' w') → den P T F n A (thenF K (fun _ _ _ => False)) fr w) (hB : ∀ s fr0 a' w', Rep D n (upds fr0 (L s)) a' → J s w' → B.wpIn Fence.wide m P Q a' w') : (A.seq B).wpIn Fence.wide m P Q a w := by
  refine seq_den hT (K := fun fr' w' => ∃ s, Slots fr' (L s) ∧ J s w') hA hr (h _ fun s fr' w' hs hj => ⟨s, hs, hj⟩) ?_
  rintro fr' a' w' hr' ⟨s, hs, hj⟩
  rw [upds_self hs] at hr'
  exact hB s fr' a' w' hr' hj
theorem results_run (hT : TabOk P T F) {D : List Deferred} {n : Nat} {fr : Fr} {a : Act} {w : World} {fn : Func} {R : Ending → World → Prop} (hr : Rep D n fr a) (h : retQ T fr w fn.results.toList [] (fun vs => R (.returned (packV vs)) w)) : ∃ v, (results fn a.tmps).run P w = .ok v w ∧ R (.returned v) w := by
  obtain ⟨vs, hv, hk⟩ := mapM_run (P := P) hT hr _ _ h
  refine ⟨packV vs, ?_, by simpa using hk⟩
  unfold results
  rw [Array.mapM_eq_mapM_toList]
  simp only [Sem.run_bind, Sem.run_map]
  refine (congrArg (fun r : Result (List Value) => (r.andThen fun a w' => Result.ok a.toArray w').andThen fun a w' => Sem.run P (pure (if h : a.size = 1 then a[0] else Value.tuple a)) w') hv).trans ?_
  simp only [Result.andThen_ok, Sem.run_pure]
  congr 1
  match vs with
  | [] => rfl
  | [v] => rfl
  | v :: u :: r => simp [packV]
/-- The end of a function that holds such a statement. -/
theorem leave_ (hT : TabOk P T F) {d n m : Nat} {fr : Fr} {a : Act} {w : World} {fn : Func} {R : Ending → World → Prop} (hr : Rep [{ target := .collected d, args := #[] }] n fr a) (hd : w.heap[d]? = some (.deferred (some [])))
    (h : retQ T fr (w.putObj d (.deferred none)) fn.results.toList [] (fun vs => R (.returned (packV vs)) (w.putObj d (.deferred none)))) : LeavesInM Fence.wide m P fn a.tmps R a.defers .returning w := by
  rw [hr.defers]
  refine ⟨by simp, .inl ⟨d, _, rfl, run_takeDeferred hd, ?_⟩⟩
  exact results_run hT hr h
theorem rep_enter {args : List Value} {n : Nat} (hn : args.length ≤ n) : Rep [] n (frOf args) { tmps := args.toArray ++ Array.replicate (n - args.toArray.size) undef, defers := [] } := by
  refine ⟨rfl, by simp; omega, ?_⟩
  intro i
  have hfr : ∀ (l : List Value) i, frOf l i = l.getD i undef := by
    intro l
    induction l with
    | nil => intro i; rfl
    | cons v r ih => intro i; cases i with
      | zero => rfl
      | succ i => simpa [frOf] using ih i
  rw [hfr]
  simp only [Array.getD_eq_getD_getElem?, List.getD_eq_getElem?_getD, Array.getElem?_append]
  split
  · simp
  · rename_i hlt
    simp only [List.size_toArray, Nat.not_lt] at hlt
    rw [List.getElem?_eq_none hlt]
    simp only [Array.getElem?_replicate, Option.getD_none]
    split <;> rfl
theorem rep_round2 {D : List Deferred} {n p q : Nat} {fr : Fr} {a : Act} {u v : Value} (h : Rep D n fr a) (hp : p < n) (hq : q < n) :
    Rep [] n (upd (upd fr p u) q v) { tmps := ((#[p, q] : Array Tmp).zip #[u, v]).foldl (fun tmps (t, a) => tmps.setIfInBounds t a) a.tmps, defers := [] } := by
  have h1 := h.put (some p) (fun j e => by cases e; exact hp) u
  have h2 := h1.put (some q) (fun j e => by cases e; exact hq) v
  have e : ((#[p, q] : Array Tmp).zip #[u, v]).foldl (fun tmps (t, a) => tmps.setIfInBounds t a) a.tmps = (a.tmps.setIfInBounds p u).setIfInBounds q v := by simp
  rw [e]
  exact ⟨rfl, h2.size, h2.read⟩
end
end Go.Proofs.YtpcoleeggeahlaaDoor.Eng
