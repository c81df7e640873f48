/- The texts KRef3, KRef4, KRef5, KBytes, KRef6, KOpen, KOpen2, KPrints behind one another, merged by mrg.py; each says in its own place what it proves. -/
import Derived.Test.YtdcaafldnbcdkaaDoorTab
import Derived.Test.YtdcaafldnbcdkaaDoorGF4

/-! ### KRef3 -/
namespace Go.Proofs.YtdcaafldnbcdkaaDoor.Class
open Go Go.Proofs.YtdcaafldnbcdkaaDoor Go.Proofs.YtdcaafldnbcdkaaDoor.Eng Go.Proofs Go.Proofs.YtdcaafldnbcdkaaDoor.Word Go.Proofs.YtdcaafldnbcdkaaDoor.Fmt
open Go.Proofs.YtdcaafldnbcdkaaDoor.Pool (Ent at_ poolF strV entC entV EntOk Pl OkPool both own_low tagAt)
set_option maxRecDepth 10000

/-- Another one's blocks change. -/
theorem Ri.other {w1 w2 : World} {base h : Nat} {p : Po} {v : Value} {t : WT} {S : Nat → Prop} (c : Ri w1 base p h v t) (m : Mod S w1 w2) (hS : ∀ b, b < w1.heap.size → S b → base ≤ b ∧ ¬ RHb h v b) : Ri w2 base p h v t := by
  refine ⟨m.blk c.blk (fun e => (hS _ c.lt e).2 (.inr rfl)), own_mod m c.own (fun k hk e => (hS _ (c.vlt hk).2 e).2 (.inl hk.symm)), c.off, c.bh, c.cx.mod m fun b hb e => (hS b hb e).1⟩
/-! ### Lists of types, as the document tells them -/
def tOut (b : Bool) (xs : List Ty) : List Ty := if b then locOut false xs else xs
def tOk (b : Bool) (xs : List Ty) : Prop := if b then locOk false xs else True
def tT (b : Bool) (l : List Ent) : Tell (List Ty) := if b then lcsT l else stkT l
theorem tT_ok {b : Bool} {l : List Ent} {xs : List Ty} : (tT b l).ok xs ↔ xs.length ≤ 64 ∧ tOk b xs ∧ ∀ y ∈ tOut b xs, (tyT l).ok y := by
  cases b with
  | false => exact ⟨fun h => ⟨h.1, trivial, h.2⟩, fun h => ⟨h.1, h.2.2⟩⟩
  | true => exact ⟨fun h => ⟨h.1.1, h.1.2, h.2.2⟩, fun h => ⟨⟨h.1, h.2.1⟩, Nat.le_trans (locOut_len false xs) h.1, h.2.2⟩⟩
theorem tT_enc {b : Bool} {l : List Ent} {xs : List Ty} : (tT b l).enc xs = enc 2 ((tOut b xs).length : Int) ++ (tOut b xs).flatMap (tyT l).enc := by
  cases b <;> rfl
theorem tOut_len (b : Bool) (xs : List Ty) : (tOut b xs).length ≤ xs.length := by
  cases b with
  | false => exact Nat.le_refl _
  | true => exact locOut_len false xs
/-- Types that are being told: t ahead, i read, u told so far (its mark: all marks), done: what was told. -/
def TI (b : Bool) (l : List Ent) (t : WT) (xs : List Ty) (i : Nat) (u : WT) (done : List Ty) : Prop :=
  done.length ≤ i ∧ done.length ≤ xs.length ∧ u.1.length ≤ 3 * done.length ∧ ((u.2 = true ∧ (t.2 = true ∨ ¬ (tT b l).ok xs)) ∨
    (u.2 = false ∧ t.2 = false ∧ xs.length ≤ 64 ∧ u.1 = done.flatMap (tyT l).enc ∧ (∀ x ∈ done, (tyT l).ok x) ∧ tOut b xs = done ++ tOut b (xs.drop i) ∧ (tOk b xs ↔ tOk b (xs.drop i))))
theorem TI.start {b : Bool} {l : List Ent} {t : WT} {xs : List Ty} : TI b l t xs 0 ([], t.2 || !decide (xs.length ≤ 64)) [] := by
  refine ⟨Nat.le_refl _, Nat.zero_le _, Nat.le_refl _, ?_⟩
  by_cases h : xs.length ≤ 64
  · rw [decide_eq_true h]
    cases ht : t.2 with
    | true => exact .inl ⟨rfl, .inl rfl⟩
    | false => exact .inr ⟨rfl, rfl, h, rfl, (fun _ h => by cases h), rfl, Iff.rfl⟩
  · rw [decide_eq_false h]
    refine .inl ⟨by simp, .inr fun o => h (tT_ok.1 o).1⟩
/-- One more; not a long among locals. -/
theorem TI.step {b : Bool} {l : List Ent} {t u u1 : WT} {xs done : List Ty} {i : Nat} (hi : i < xs.length) (h : TI b l t xs i u done) (hd : done.length < xs.length) (k : Wri (tyT l) 3 u xs[i] u1) (hn : b = true → xs[i].kind ≠ 2) : TI b l t xs (i + 1) u1 (done ++ [xs[i]]) := by
  obtain ⟨h1, h2, h3, h4⟩ := h
  obtain ⟨k1, k2⟩ := k
  have ed : xs.drop i = xs[i] :: xs.drop (i + 1) := List.drop_eq_getElem_cons hi
  have eo : tOut b (xs.drop i) = xs[i] :: tOut b (xs.drop (i + 1)) := by
    rw [ed]
    cases b with
    | false => rfl
    | true =>
      show xs[i] :: locOut (decide (xs[i].kind = 2)) (xs.drop (i + 1)) = _
      rw [decide_eq_false (hn rfl)]
      rfl
  have ek : tOk b (xs.drop i) ↔ tOk b (xs.drop (i + 1)) := by
    rw [ed]
    cases b with
    | false => exact Iff.rfl
    | true =>
      show locOk (decide (xs[i].kind = 2)) (xs.drop (i + 1)) ↔ _
      rw [decide_eq_false (hn rfl)]
      exact Iff.rfl
  refine ⟨by simp; omega, by simp; omega, by simp; omega, ?_⟩
  rcases k2 with ⟨a, c⟩ | ⟨a, c, e, s⟩
  · refine .inl ⟨a, ?_⟩
    rcases h4 with ⟨p, q⟩ | ⟨p, q, r, _, _, f, _⟩
    · exact q
    · rcases c with c | c
      · rw [p] at c; cases c
      · refine .inr fun o => c ((tT_ok.1 o).2.2 _ ?_)
        rw [f, eo]
        simp
  · rcases h4 with ⟨p, q⟩ | ⟨p, q, r, g, j, f, m⟩
    · rw [c] at p; cases p
    · refine .inr ⟨a, q, r, ?_, fun y hy => ?_, ?_, m.trans ek⟩
      · rw [s, g, List.flatMap_append]
        simp
      · rcases List.mem_append.1 hy with hy | hy
        · exact j y hy
        · rw [List.mem_singleton.1 hy]; exact e
      · rw [f, eo, List.append_assoc]
        rfl
/-- A long among locals, with what stands behind. -/
theorem TI.long {l : List Ent} {t u u1 : WT} {xs done : List Ty} {i : Nat} {c : Bool} (hi : i < xs.length) (h : TI true l t xs i u done) (hd : done.length < xs.length) (k : Wri (tyT l) 3 u xs[i] u1) (hn : xs[i].kind = 2) (hc : c = true ↔ ∃ h : i + 1 < xs.length, xs[i + 1] = ty0) : TI true l t xs (i + 2) (u1.1, u1.2 || !c) (done ++ [xs[i]]) := by
  obtain ⟨h1, h2, h3, h4⟩ := h
  obtain ⟨k1, k2⟩ := k
  have ed : xs.drop i = xs[i] :: xs.drop (i + 1) := List.drop_eq_getElem_cons hi
  have eo : tOut true (xs.drop i) = xs[i] :: locOut true (xs.drop (i + 1)) := by
    rw [ed]
    show xs[i] :: locOut (decide (xs[i].kind = 2)) (xs.drop (i + 1)) = _
    rw [decide_eq_true hn]
  have ek : tOk true (xs.drop i) ↔ locOk true (xs.drop (i + 1)) := by
    rw [ed]
    show locOk (decide (xs[i].kind = 2)) (xs.drop (i + 1)) ↔ _
    rw [decide_eq_true hn]
  refine ⟨by simp; omega, by simp; omega, by simp; omega, ?_⟩
  have bad : c = false → t.2 = true ∨ ¬ (tT true l).ok xs := fun hcf => by
    rcases h4 with ⟨p, q⟩ | ⟨p, q, r, g, j, f, m⟩
    · exact q
    · refine .inr fun o => ?_
      have := ek.1 (m.1 (tT_ok.1 o).2.1)
      have hno : ¬ c = true := by rw [hcf]; decide
      rcases Nat.lt_or_ge (i + 1) xs.length with hl | hl
      · rw [List.drop_eq_getElem_cons hl] at this
        exact hno (hc.2 ⟨hl, this.1⟩)
      · rw [List.drop_eq_nil_of_le hl] at this
        exact this
  cases hcc : c with
  | false => exact .inl ⟨by simp, bad hcc⟩
  | true =>
    obtain ⟨hl, hty⟩ := hc.1 hcc
    have ed2 : xs.drop (i + 1) = xs[i + 1] :: xs.drop (i + 2) := List.drop_eq_getElem_cons hl
    rw [ed2] at eo ek
    have eo' : tOut true (xs.drop i) = xs[i] :: tOut true (xs.drop (i + 2)) := eo
    have ek' : tOk true (xs.drop i) ↔ tOk true (xs.drop (i + 2)) := ek.trans ⟨fun h => h.2, fun h => ⟨hty, h⟩⟩
    rcases k2 with ⟨a, d⟩ | ⟨a, d, e, s⟩
    · refine .inl ⟨by dsimp only; rw [a]; rfl, ?_⟩
      rcases h4 with ⟨p, q⟩ | ⟨p, q, r, _, _, f, _⟩
      · exact q
      · rcases d with d | d
        · rw [p] at d; cases d
        · refine .inr fun o => d ((tT_ok.1 o).2.2 _ ?_)
          rw [f, eo']
          simp
    · rcases h4 with ⟨p, q⟩ | ⟨p, q, r, g, j, f, m⟩
      · rw [d] at p; cases p
      · refine .inr ⟨by dsimp only; rw [a]; rfl, q, r, ?_, fun y hy => ?_, ?_, m.trans ek'⟩
        · dsimp only
          rw [s, g, List.flatMap_append]
          simp
        · rcases List.mem_append.1 hy with hy | hy
          · exact j y hy
          · rw [List.mem_singleton.1 hy]; exact e
        · rw [f, eo', List.append_assoc]
          rfl
/-- All told: the number, and the bytes behind. -/
theorem TI.done {b : Bool} {l : List Ent} {t u : WT} {xs done : List Ty} {i : Nat} {bad ub : Bool} (h : TI b l t xs i u done) (hi : xs.length ≤ i) (hu : u.2 = (bad || ub)) : Wri (tT b l) (2 + 3 * xs.length) t xs ((noteU (t.1, bad) 2 [(done.length : Int)]).1 ++ u.1, (noteU (t.1, bad) 2 [(done.length : Int)]).2 || ub) := by
  obtain ⟨h1, h2, h3, h4⟩ := h
  have hle := noteU_le (t.1, bad) 2 [(done.length : Int)]
  simp only [List.length_cons, List.length_nil] at hle
  refine ⟨by simp only [List.length_append]; omega, ?_⟩
  rcases h4 with ⟨p, q⟩ | ⟨p, q, r, g, j, f, m⟩
  · refine .inl ⟨?_, q⟩
    rw [hu, Bool.or_eq_true] at p
    unfold noteU
    dsimp only
    rcases p with p | p
    · rw [p]; simp
    · rw [p]; simp
  · rw [hu, Bool.or_eq_false_iff] at p
    rw [List.drop_eq_nil_of_le hi] at f m
    have f' : tOut b xs = done := by rw [f]; cases b <;> simp [tOut, locOut]
    have m' : tOk b xs := m.2 (by cases b <;> trivial)
    have hn : done.length ≤ 64 := by
      have := tOut_len b xs
      rw [f'] at this
      omega
    have w2 := (Wri.n2 (t := (t.1, bad)) (n := (done.length : Int))).2
    rcases w2 with ⟨_, c⟩ | ⟨c1, _, _, c4⟩
    · rcases c with c | c
      · rw [p.1] at c; cases c
      · exact absurd (n2_ok (by omega) (by omega)) c
    · refine .inr ⟨by dsimp only; rw [c1, p.2]; rfl, q, tT_ok.2 ⟨r, m', by rw [f']; exact j⟩, ?_⟩
      dsimp only
      rw [c4, tT_enc, f', g, List.append_assoc]
      rfl

end Go.Proofs.YtdcaafldnbcdkaaDoor.Class

/-! ### KRef4 -/
namespace Go.Proofs.YtdcaafldnbcdkaaDoor.Class
open Go Go.Proofs.YtdcaafldnbcdkaaDoor Go.Proofs.YtdcaafldnbcdkaaDoor.Eng Go.Proofs Go.Proofs.YtdcaafldnbcdkaaDoor.Word Go.Proofs.YtdcaafldnbcdkaaDoor.Fmt
open Go.Proofs.YtdcaafldnbcdkaaDoor.Pool (Ent at_ poolF strV entC entV EntOk Pl OkPool both own_low tagAt)
set_option maxRecDepth 10000

section
variable {w w1 w2 w' : World} {base h : Nat} {p : Po} {v v' : Value} {t : WT}
theorem Kr.lrep {α : Type} {R : RepT α} {sz : Nat} {vl : Value} {xs : List α} (k : Kr w base p h v w' v' t) (hR : RepOk R sz) (hsz : 0 < sz) (hl : LRep R w (RHb h v) vl xs) : LRep R w' (RHb h v') vl xs := by
  have h1 := LRep.weak (S' := fun b => RHb h v b ∨ w.heap.size ≤ b) hR hl fun b hb e => e.resolve_right (by omega)
  refine LRep.weak hR (LRep.mod hR hsz h1 (k.mod.mono fun _ _ e => .inl e)) fun b _ e => ?_
  rcases e with e | e
  · rcases k.st b e.symm with e1 | e1
    · exact .inl (.inl e1.symm)
    · exact .inr e1
  · exact .inl (.inr e)
/-- What is done elsewhere, in new blocks. -/
theorem Kr.also {S : Nat → Prop} (k : Kr w base p h v w1 v' t) (m : Mod S w1 w2) (hS : ∀ b, S b → w.heap.size ≤ b ∧ ¬ RHb h v' b) (hw : base ≤ w.heap.size) : Kr w base p h v w2 v' t :=
  ⟨k.ri.other m fun b _ e => ⟨Nat.le_trans hw (hS b e).1, (hS b e).2⟩, Mod.trans k.mod m fun b hb e => by have := (hS b e).1; omega, k.st⟩
end
theorem Wri.mark {α : Type} {T : Tell α} {c : Nat} {t t1 : WT} {x : α} (h : Wri T c t x t1) (b : Bool) : Wri T c (t.1, b || t.2) x (t1.1, b || t1.2) := by
  cases b with
  | true => exact ⟨h.1, .inl ⟨rfl, .inl rfl⟩⟩
  | false => exact h
/-- One that is told elsewhere, with a mark of its own. -/
theorem Wri.sum {α : Type} {T : Tell α} {c : Nat} {t t1 : WT} {x : α} {b k : Bool} (h : Wri T c t x t1) (e : T.ok x → k = true) : Wri T c (t.1, b || t.2) x (t1.1, (b || !k) || t1.2) := by
  have h1 := h.mark (b || !k)
  refine Wri.pre (b := k) ?_ e
  have e1 : ((b || t.2) || !k) = ((b || !k) || t.2) := by cases b <;> cases t.2 <;> cases k <;> rfl
  dsimp only
  rw [e1]
  exact h1
theorem ty_low {l : List Ent} {t : WT} {y : Ty} {b : Bool} {n : Int} (h0 : 0 ≤ y.kind) (h4 : y.kind < 4) (hn : n = kindNo y.kind) : Wri (tyT l) 3 (t.1, b || t.2) y ((noteU t 1 [n]).1, (b || !decide (y.name = [])) || (noteU t 1 [n]).2) := by
  subst hn
  have w1k : Wri kindT 1 t y.kind (noteU t 1 [kindNo y.kind]) := Wri.by (p := true) Wri.n1 (by simp) (by simp only [true_iff]; exact ⟨h0, by omega⟩)
  have hok : (tyT l).ok y → decide (y.name = []) = true := fun o => by
    rw [decide_eq_true_eq]
    exact (okTy_of o).2.2.resolve_left (by omega)
  by_cases hnm : y.name = []
  · refine Wri.sum (Wri.by_ (Wri.le (c := 1 + 0) (Wri.dseq w1k ?_) (by omega))) hok
    rw [if_neg (by omega)]
    exact Wri.nil hnm
  · have hl := w1k.1
    refine Wri.nok ?_ (by dsimp only; omega) fun o => hnm (by have := hok o; rwa [decide_eq_true_eq] at this)
    dsimp only
    rw [decide_eq_false hnm]
    cases b <;> rfl
theorem ty_ref {l : List Ent} {t t1 : WT} {y : Ty} {b : Bool} (h4 : y.kind = 4) (h : Wri (clsT l) 2 (noteU t 1 [7]) y.name t1) : Wri (tyT l) 3 (t.1, b || t.2) y (t1.1, (b || !true) || t1.2) := by
  have e7 : kindNo y.kind = 7 := by rw [h4]; rfl
  have w1k : Wri kindT 1 t y.kind (noteU t 1 [7]) := by
    rw [← e7]
    exact Wri.by (p := true) Wri.n1 (by simp) (by simp only [true_iff]; exact ⟨by omega, by omega⟩)
  refine Wri.sum (Wri.by_ (Wri.le (c := 1 + 2) (Wri.dseq w1k ?_) (by omega))) fun _ => rfl
  rw [if_pos h4]
  exact h
theorem ty_no {l : List Ent} {t : WT} {y : Ty} {b : Bool} (h : ¬ (0 ≤ y.kind ∧ y.kind < 5)) : Wri (tyT l) 3 (t.1, b || t.2) y (t.1, true || t.2) :=
  Wri.nok rfl (Nat.le_add_right _ _) fun o => h ⟨(okTy_of o).1, (okTy_of o).2.1⟩

/-- A writer within another one's work. -/
structure Nest (w : World) (base : Nat) (p : Po) (h : Nat) (v : Value) (wl : World) (v' : Value) (t : WT) (z : Nat) (v2 : Value) (t2 : WT) : Prop where
  out : Kr w base p h v wl v' t
  inn : Ri wl base p z v2 t2
  at_ : ∀ q, RHb z v2 q → w.heap.size ≤ q
  sep : ∀ q, RHb z v2 q → ¬ RHb h v' q
  low : base ≤ w.heap.size
section
variable {w wl w' w1 w2 : World} {base h z : Nat} {p : Po} {v v' v'' v2 v3 : Value} {t t' t2 t3 : WT}
theorem Nest.start (k : Kr w base p h v w1 v' t) (hw : base ≤ w.heap.size) (n : New w1 w2) (hz : z = w1.heap.size) (hb : w2.heap[z]? = some (.cells #[p.v, .slice none 0 0, .bool false] 100 (0, 0))) : Nest w base p h v w2 v' t z (.slice none 0 0) ([], false) := by
  subst hz
  have hs := k.mod.size
  have e0 : ∀ q, RHb w1.heap.size (.slice none 0 0) q → q = w1.heap.size := by
    rintro q (e | e)
    · cases e
    · exact e
  refine ⟨k.new n, ⟨hb, ⟨rfl, .inl ⟨rfl, rfl⟩⟩, (fun e => by cases e), k.ri.bw, k.ri.cx.new n⟩, fun q e => by rw [e0 q e]; exact hs, fun q e => k.ri.hi (by rw [e0 q e]; exact Nat.le_refl _), hw⟩
theorem Nest.new (n : Nest w base p h v wl v' t z v2 t2) (m : New wl w') : Nest w base p h v w' v' t z v2 t2 := ⟨n.out.new m, n.inn.new m, n.at_, n.sep, n.low⟩
theorem Ri.rlt {w : World} {base h : Nat} {p : Po} {v : Value} {t : WT} (c : Ri w base p h v t) {q : Nat} (e : RHb h v q) : q < w.heap.size := Nat.lt_of_not_le fun hq => c.hi hq e
theorem Kr.back {w w' : World} {base h : Nat} {p : Po} {v v' : Value} {t : WT} (k : Kr w base p h v w' v' t) {q : Nat} (e : RHb h v' q) : RHb h v q ∨ w.heap.size ≤ q := by
  rcases e with e | e
  · rcases k.st q e.symm with e1 | e1
    · exact .inl (.inl e1.symm)
    · exact .inr e1
  · exact .inl (.inr e)
theorem Nest.must (n : Nest w base p h v wl v' t z v2 t2) (k : Kr wl base p h v' w' v'' t') : Nest w base p h v w' v'' t' z v2 t2 := by
  refine ⟨n.out.then k, n.inn.other k.mod fun q _ e => ⟨n.out.ri.at_ e, fun e2 => n.sep q e2 e⟩, n.at_, fun q e1 e2 => ?_, n.low⟩
  rcases k.back e2 with e | e
  · exact n.sep q e1 e
  · exact n.inn.hi e e1
theorem Nest.act (n : Nest w base p h v wl v' t z v2 t2) (k : Kr wl base p z v2 w' v3 t3) : Nest w base p h v w' v' t z v3 t3 := by
  have hs := n.out.mod.size
  refine ⟨n.out.also k.mod (fun q e => ⟨n.at_ q e, n.sep q e⟩) n.low, k.ri, fun q e => ?_, fun q e => ?_, n.low⟩
  · rcases k.back e with e1 | e1
    · exact n.at_ q e1
    · omega
  · rcases k.back e with e1 | e1
    · exact n.sep q e1
    · exact n.out.ri.hi e1
/-- The inner one's bytes are put behind the outer one's. -/
theorem Nest.add (n : Nest w base p h v wl v' t z v2 t2) (hd : New wl w') (m : Mod (fun b => some b = v'.ownBlock) w' w1) (own : w1.ownsRow base 5 1 v'' (t.1.length + t2.1.length) (bvs t.1 ++ bvs t2.1)) (st : stayed w' v' v'') (ms : Mod (fun b => b = h) w1 w2)
    (hb : w2.heap[h]? = some (.cells #[p.v, v'', .bool t.2] 100 (0, 0))) : Kr w base p h v w2 v'' (t.1 ++ t2.1, t.2) ∧ w2.heap[z]? = some (.cells #[p.v, v2, .bool t2.2] 100 (0, 0)) := by
  have nn := n.new hd
  have k := nn.out.ri.put (bs := t.1 ++ t2.1) m (by rw [List.length_append, bvs_append]; exact own) st ms hb
  refine ⟨nn.out.then k, k.blk nn.inn.blk (n.sep z (.inr rfl))⟩
end
theorem rtypes_ok (base : Nat) (p : Po) (h : Nat) (v : Value) (t : WT) (vl : Value) (xs : List Ty) (b : Bool) (w : World) (c : Ri w base p h v t) (hO : OkPool p.l) (hl : LRep tyR w (RHb h v) vl xs) (hm : t.1.length + (2 + 3 * xs.length) ≤ 1000000000) :
    Calls Tryd.prog 86 #[.pointer (some ⟨h, 0, none⟩), vl, .bool b] w fun e w' => e = .returned (.tuple #[]) ∧ ∃ v' t', Kr w base p h v w' v' t' ∧ Wri (tT b p.l) (2 + 3 * xs.length) t xs t' := by
  obtain ⟨Al, cl, rfl, h43, _⟩ := hl.get tyOk (by decide)
  have hbw := c.bw
  refine enter ok Tryd.func86 rfl rfl rfl ?_
  refine seq_cut (σ := Unit) (fun _ => [(0, .pointer (some ⟨h, 0, none⟩)), (1, .slice Al xs.length cl), (2, .bool b)]) (fun _ w' => Kr w base p h v w' v (t.1, t.2 || !decide (xs.length ≤ 64))) ?_ ?_
  rotate_left
  · intro K hK
    refine call_ (rmust_ok base p h v t (decide ((xs.length : Int) ≤ 64)) w c) ?_
    rintro e w1 ⟨rfl, k1⟩
    refine ⟨_, rfl, ?_⟩
    have e1 : decide ((xs.length : Int) ≤ 64) = decide (xs.length ≤ 64) := decide_eq_decide.2 (by omega)
    rw [e1] at k1
    exact hK () _ _ ⟨rfl, rfl, rfl, trivial⟩ k1
  rintro _ w1 fr1 k1
  refine seq_assign ?_
  obtain ⟨z, hz⟩ : ∃ z, z = w1.heap.size := ⟨_, rfl⟩
  refine seq_cut (σ := Unit) (fun _ => [(0, .pointer (some ⟨h, 0, none⟩)), (1, .slice Al xs.length cl), (2, .bool b), (6, zi 0), (7, .pointer (some ⟨z, 0, none⟩))]) (fun _ w' => Nest w base p h v w' v (t.1, t.2 || !decide (xs.length ≤ 64)) z (.slice none 0 0) ([], false)) ?_ ?_
  rotate_left
  · intro K hK
    refine Exists.intro p.A (Exists.intro p.l.length (Exists.intro p.c (And.intro (cellB k1.ri.blk rfl) ?_)))
    have n2 := New.alloc w1 (.cells #[p.v, .slice none 0 0, .bool false] 100)
    have hb2 := heap_alloc_new w1 (.cells #[p.v, .slice none 0 0, .bool false] 100)
    have nest := Nest.start k1 hbw n2 rfl hb2
    rw [hz] at hK
    exact hK () _ _ ⟨rfl, rfl, rfl, rfl, rfl, trivial⟩ nest
  rintro _ w2 fr2 nest2
  refine seq_cut (σ := List Ty × Value × WT × Bool) (fun s => [(0, .pointer (some ⟨h, 0, none⟩)), (6, zi (s.1.length : Int)), (7, .pointer (some ⟨z, 0, none⟩))]) (fun s w' => ∃ i, Nest w base p h v w' v (t.1, s.2.2.2) z s.2.1 s.2.2.1 ∧ xs.length ≤ i ∧ TI b p.l t xs i (s.2.2.1.1, s.2.2.2 || s.2.2.1.2) s.1) ?_ ?_
  rotate_left
  · intro K hK
    refine seq_assign ?_
    refine den_loop (σ := Nat × List Ty × Value × WT × Bool) (fun s => [(0, .pointer (some ⟨h, 0, none⟩)), (1, .slice Al xs.length cl), (2, .bool b), (6, zi (s.2.1.length : Int)), (7, .pointer (some ⟨z, 0, none⟩)), (8, zi (s.1 : Int))])
      (fun m s wl => xs.length ≤ m + s.1 ∧ Nest w base p h v wl v (t.1, s.2.2.2.2) z s.2.2.1 s.2.2.2.1 ∧ TI b p.l t xs s.1 (s.2.2.2.1.1, s.2.2.2.2 || s.2.2.2.1.2) s.2.1) xs.length
      (0, [], .slice none 0 0, ([], false), t.2 || !decide (xs.length ≤ 64)) ⟨rfl, rfl, rfl, rfl, rfl, rfl, trivial⟩ ⟨by dsimp only; omega, nest2, by dsimp only; rw [Bool.or_false]; exact TI.start⟩ ?_
    rintro m ⟨i, dn, v2, t2, bad⟩ wl frl ⟨hfuel, nl, ti⟩
    dsimp only at hfuel nl ti
    refine seq_cut (σ := Unit) (fun _ => [(0, .pointer (some ⟨h, 0, none⟩)), (1, .slice Al xs.length cl), (2, .bool b), (6, zi (dn.length : Int)), (7, .pointer (some ⟨z, 0, none⟩)), (8, zi (i : Int))]) (fun _ w' => w' = wl ∧ i < xs.length) ?_ ?_
    rotate_left
    · intro K2 hK2
      refine if_p (fun hlt => ?_) (fun hge => ?_)
      · replace hlt : (i : Int) < (xs.length : Int) := hlt
        exact hK2 () _ _ ⟨rfl, rfl, rfl, rfl, rfl, rfl, trivial⟩ ⟨rfl, by omega⟩
      · replace hge : ¬ (i : Int) < (xs.length : Int) := hge
        exact hK (dn, v2, t2, bad) _ _ ⟨rfl, rfl, rfl, trivial⟩ ⟨i, nl, by omega, ti⟩
    rintro _ wy fry ⟨hwy, hi⟩
    obtain rfl := hwy.symm
    have hlt : (i : Int) < (xs.length : Int) := by omega
    obtain ⟨m, rfl⟩ : ∃ m', m = m' + 1 := ⟨m - 1, by omega⟩
    have hdn := ti.1
    have hul := ti.2.2.1
    dsimp only at hul
    obtain ⟨_, _, he, _, gx⟩ := (nl.out.lrep tyOk (by decide) hl).get tyOk (by decide)
    cases he
    obtain ⟨a, cs, ea, hx, hc⟩ := gx i hi
    obtain ⟨y, hy⟩ : ∃ y, y = xs[i] := ⟨_, rfl⟩
    rw [← hy] at hx
    have hx0 := hx
    obtain rfl := hx
    have step : ∀ {u1 : WT}, Wri (tyT p.l) 3 (t2.1, bad || t2.2) y u1 → (b = true → y.kind ≠ 2) → TI b p.l t xs (i + 1) u1 (dn ++ [y]) := fun q hn => by
      have q' := q
      rw [hy] at q' hn
      have := ti.step hi (by omega) q' hn
      rw [← hy] at this
      exact this
    have long : ∀ {u1 : WT} {k : Bool}, Wri (tyT p.l) 3 (t2.1, bad || t2.2) y u1 → b = true → y.kind = 2 → (k = true ↔ ∃ h : i + 1 < xs.length, xs[i + 1] = ty0) → TI b p.l t xs (i + 2) (u1.1, u1.2 || !k) (dn ++ [y]) := fun q hb hk hc => by
      subst hb
      rw [hy] at q hk
      have := ti.long hi (by omega) q hk hc
      rw [← hy] at this
      exact this
    have hlen : (dn ++ [y]).length = dn.length + 1 := by simp
    refine seq_cut (σ := Nat × Value × WT × Bool) (fun s => [(0, .pointer (some ⟨h, 0, none⟩)), (1, .slice Al xs.length cl), (2, .bool b), (6, zi ((dn.length + 1 : Nat) : Int)), (7, .pointer (some ⟨z, 0, none⟩)), (8, zi (s.1 : Int))]) (fun s w' => Nest w base p h v w' v (t.1, s.2.2.2) z s.2.1 s.2.2.1 ∧ TI b p.l t xs (s.1 + 1) (s.2.2.1.1, s.2.2.2 || s.2.2.1.2) (dn ++ [y]) ∧ i ≤ s.1 ∧ s.1 ≤ xs.length) ?_ ?_
    · rintro ⟨j, v3, t3, bad3⟩ w3 fr3 ⟨n3, ti3, hij, hjl⟩
      dsimp only at n3 ti3 hij hjl
      have hinc : Value.int .i64 (IntKind.i64.wrap ((j : Int) + 1)) = .int .i64 ((j + 1 : Nat) : Int) := by
        rw [wrap_i64 (by omega) (by omega)]
        rfl
      exact ⟨m, (j + 1, dn ++ [y], v3, t3, bad3), by omega, ⟨rfl, rfl, rfl, (show zi ((dn.length + 1 : Nat) : Int) = zi ((dn ++ [y]).length : Int) by rw [hlen]), rfl, hinc, trivial⟩, by dsimp only; omega, n3, ti3⟩
    intro K3 hK3
    refine block_ ?_
    obtain ⟨E, hE⟩ : ∃ E, E = wl.heap.size := ⟨_, rfl⟩
    refine seq_cut (σ := Unit) (fun _ => [(0, .pointer (some ⟨h, 0, none⟩)), (1, .slice Al xs.length cl), (2, .bool b), (6, zi (dn.length : Int)), (7, .pointer (some ⟨z, 0, none⟩)), (8, zi (i : Int)), (9, .pointer (some ⟨E, 0, none⟩))]) (fun _ w' => New wl w' ∧ w'.heap[E]? = some (.cells #[zi y.kind, strV y.name] 51 (0, 0))) ?_ ?_
    rotate_left
    · intro K4 hK4
      refine And.intro (by omega) (And.intro hlt ?_)
      refine some_at ea ?_
      refine loadN_row (vs := [zi y.kind, strV y.name]) (fun j u hu => by rw [Int.toNat_natCast]; exact hc j u hu) rfl ?_
      refine And.intro rfl ?_
      refine storeNew (vs := [zi y.kind, strV y.name]) (arr := #[zi 0, .string ⟨#[]⟩]) rfl (tyOk.one hx0) ?_
      intro w5 hb5 n5 s5
      rw [hE] at hK4
      exact hK4 () _ _ ⟨rfl, rfl, rfl, rfl, rfl, rfl, rfl, trivial⟩ ⟨n5, hb5⟩
    rintro _ w5 fr5 ⟨n5, hE5⟩
    have nest5 := nl.new n5
    have hEo : ¬ RHb h v E := nl.out.ri.hi (by omega)
    have hEi : ¬ RHb z v2 E := nl.inn.hi (by omega)
    have hEl : E < w5.heap.size := (Array.getElem?_eq_some_iff.1 hE5).1
    -- a name only where it does
    obtain ⟨okn, hokn⟩ : ∃ okn, okn = (decide (y.kind = 4) || decide (y.name = [])) := ⟨_, rfl⟩
    refine seq_cut (σ := Unit) (fun _ => [(0, .pointer (some ⟨h, 0, none⟩)), (1, .slice Al xs.length cl), (2, .bool b), (6, zi (dn.length : Int)), (7, .pointer (some ⟨z, 0, none⟩)), (8, zi (i : Int)), (9, .pointer (some ⟨E, 0, none⟩))]) (fun _ w' => Nest w base p h v w' v (t.1, bad || !okn) z v2 t2 ∧ w'.heap[E]? = some (.cells #[zi y.kind, strV y.name] 51 (0, 0))) ?_ ?_
    rotate_left
    · intro K4 hK4
      refine Exists.intro y.kind (And.intro (cellB hE5 rfl) ?_)
      refine if_p (fun h4 => ?_) (fun h4 => ?_)
      · replace h4 : y.kind = 4 := h4
        rw [decide_eq_true h4, Bool.true_or] at hokn
        subst hokn
        refine call_ (rmust_ok base p h v (t.1, bad) true w5 nest5.out.ri) ?_
        rintro e w6 ⟨rfl, k6⟩
        refine ⟨_, rfl, ?_⟩
        exact hK4 () _ _ ⟨rfl, rfl, rfl, rfl, rfl, rfl, rfl, trivial⟩ ⟨nest5.must k6, k6.blk hE5 hEo⟩
      · replace h4 : ¬ y.kind = 4 := h4
        rw [decide_eq_false h4, Bool.false_or] at hokn
        refine Exists.intro (⟨y.name.toArray⟩ : ByteArray) (And.intro (cellB hE5 rfl) ?_)
        refine call_ (rmust_ok base p h v (t.1, bad) (decide ((⟨y.name.toArray⟩ : ByteArray) = ⟨#[]⟩)) w5 nest5.out.ri) ?_
        rintro e w6 ⟨rfl, k6⟩
        refine ⟨_, rfl, ?_⟩
        rw [nil_str, ← hokn] at k6
        exact hK4 () _ _ ⟨rfl, rfl, rfl, rfl, rfl, rfl, rfl, trivial⟩ ⟨nest5.must k6, k6.blk hE5 hEo⟩
    rintro _ w6 fr6 ⟨nest6, hE6⟩
    refine seq_cut (σ := Unit) (fun _ => [(0, .pointer (some ⟨h, 0, none⟩)), (1, .slice Al xs.length cl), (2, .bool b), (6, zi ((dn.length + 1 : Nat) : Int)), (7, .pointer (some ⟨z, 0, none⟩)), (8, zi (i : Int)), (9, .pointer (some ⟨E, 0, none⟩))]) (fun _ w' => w' = w6) ?_ ?_
    rotate_left
    · intro K4 hK4
      have hinc : Value.int .i64 (IntKind.i64.wrap ((dn.length : Int) + 1)) = .int .i64 ((dn.length + 1 : Nat) : Int) := by
        rw [wrap_i64 (by omega) (by omega)]
        rfl
      exact hK4 () _ _ ⟨rfl, rfl, rfl, hinc, rfl, rfl, rfl, trivial⟩ rfl
    rintro _ wz frz hwz
    obtain rfl := hwz.symm
    refine seq_cut (σ := Int) (fun k => [(0, .pointer (some ⟨h, 0, none⟩)), (1, .slice Al xs.length cl), (2, .bool b), (6, zi ((dn.length + 1 : Nat) : Int)), (7, .pointer (some ⟨z, 0, none⟩)), (8, zi (i : Int)), (9, .pointer (some ⟨E, 0, none⟩)), (44, zi k)]) (fun k w' => w' = w6 ∧ k = y.kind) ?_ ?_
    rotate_left
    · intro K4 hK4
      refine Exists.intro y.kind (And.intro (cellB hE6 rfl) ?_)
      exact hK4 y.kind _ _ ⟨rfl, rfl, rfl, rfl, rfl, rfl, rfl, rfl, trivial⟩ ⟨rfl, rfl⟩
    rintro kd ww frw ⟨hww, hkd⟩
    obtain rfl := hww.symm
    refine block_ ?_
    have room : t2.1.length + 8 * 1 ≤ 140737488355328 := by omega
    have low : ∀ {n : Int}, 0 ≤ y.kind → y.kind < 4 → n = kindNo y.kind → Wri (tyT p.l) 3 (t2.1, bad || t2.2) y ((noteU t2 1 [n]).1, (bad || !okn) || (noteU t2 1 [n]).2) := fun h0 h4 hn => by
      have e : okn = decide (y.name = []) := by rw [hokn, decide_eq_false (by omega), Bool.false_or]
      rw [e]
      exact ty_low h0 h4 hn
    refine if_p (fun h0 => ?_) (fun h0 => ?_)
    · replace h0 : kd = 0 := h0
      refine call_ (ruL_ok base p z v2 t2 1 [0] 1 w6 nest6.inn rfl (by simp) room) ?_
      rintro e w7 ⟨rfl, v7, k7⟩
      refine ⟨_, rfl, ?_⟩
      exact hK3 (i, v7, _, bad || !okn) _ _ ⟨rfl, rfl, rfl, rfl, rfl, rfl, trivial⟩ ⟨nest6.act k7, step (low (by omega) (by omega) (by rw [← hkd, h0]; rfl)) (fun _ => by omega), Nat.le_refl _, by dsimp only; omega⟩
    replace h0 : ¬ kd = 0 := h0
    refine if_p (fun h1 => ?_) (fun h1 => ?_)
    · replace h1 : kd = 1 := h1
      refine call_ (ruL_ok base p z v2 t2 1 [1] 1 w6 nest6.inn rfl (by simp) room) ?_
      rintro e w7 ⟨rfl, v7, k7⟩
      refine ⟨_, rfl, ?_⟩
      exact hK3 (i, v7, _, bad || !okn) _ _ ⟨rfl, rfl, rfl, rfl, rfl, rfl, trivial⟩ ⟨nest6.act k7, step (low (by omega) (by omega) (by rw [← hkd, h1]; rfl)) (fun _ => by omega), Nat.le_refl _, by dsimp only; omega⟩
    replace h1 : ¬ kd = 1 := h1
    refine if_p (fun h3 => ?_) (fun h3 => ?_)
    · replace h3 : kd = 3 := h3
      refine call_ (ruL_ok base p z v2 t2 1 [5] 1 w6 nest6.inn rfl (by simp) room) ?_
      rintro e w7 ⟨rfl, v7, k7⟩
      refine ⟨_, rfl, ?_⟩
      exact hK3 (i, v7, _, bad || !okn) _ _ ⟨rfl, rfl, rfl, rfl, rfl, rfl, trivial⟩ ⟨nest6.act k7, step (low (by omega) (by omega) (by rw [← hkd, h3]; rfl)) (fun _ => by omega), Nat.le_refl _, by dsimp only; omega⟩
    replace h3 : ¬ kd = 3 := h3
    refine if_p (fun h4 => ?_) (fun h4 => ?_)
    · replace h4 : kd = 4 := h4
      have hk4 : y.kind = 4 := by omega
      have eok : okn = true := by rw [hokn, decide_eq_true hk4, Bool.true_or]
      refine seq_cut (σ := Value) (fun _ => [(0, .pointer (some ⟨h, 0, none⟩)), (1, .slice Al xs.length cl), (2, .bool b), (6, zi ((dn.length + 1 : Nat) : Int)), (7, .pointer (some ⟨z, 0, none⟩)), (8, zi (i : Int)), (9, .pointer (some ⟨E, 0, none⟩))]) (fun v7 w' => Nest w base p h v w' v (t.1, bad || !okn) z v7 (noteU t2 1 [7]) ∧ w'.heap[E]? = some (.cells #[zi y.kind, strV y.name] 51 (0, 0))) ?_ ?_
      rotate_left
      · intro K4 hK4
        refine call_ (ruL_ok base p z v2 t2 1 [7] 1 w6 nest6.inn rfl (by simp) room) ?_
        rintro e w7 ⟨rfl, v7, k7⟩
        refine ⟨_, rfl, ?_⟩
        exact hK4 v7 _ _ ⟨rfl, rfl, rfl, rfl, rfl, rfl, rfl, trivial⟩ ⟨nest6.act k7, k7.blk hE6 hEi⟩
      rintro v7 w7 fr7 ⟨nest7, hE7⟩
      have hle := noteU_le t2 1 [7]
      simp only [List.length_cons, List.length_nil] at hle
      refine Exists.intro (⟨y.name.toArray⟩ : ByteArray) (And.intro (cellB hE7 rfl) ?_)
      refine call_ (rwclass_ok base p z v7 _ y.name w7 nest7.inn hO (by omega)) ?_
      rintro e w8 ⟨rfl, v8, t8, k8, q8⟩
      refine ⟨_, rfl, ?_⟩
      rw [eok] at nest7
      exact hK3 (i, v8, t8, bad || !true) _ _ ⟨rfl, rfl, rfl, rfl, rfl, rfl, trivial⟩ ⟨nest7.act k8, step (ty_ref hk4 q8) (fun _ => by omega), Nat.le_refl _, by dsimp only; omega⟩
    replace h4 : ¬ kd = 4 := h4
    refine if_p (fun h2 => ?_) (fun h2 => ?_)
    · replace h2 : kd = 2 := h2
      have hk2 : y.kind = 2 := by omega
      have q2 := low (n := 4) (by omega) (by omega) (by rw [hk2]; rfl)
      refine seq_cut (σ := Value) (fun _ => [(0, .pointer (some ⟨h, 0, none⟩)), (1, .slice Al xs.length cl), (2, .bool b), (6, zi ((dn.length + 1 : Nat) : Int)), (7, .pointer (some ⟨z, 0, none⟩)), (8, zi (i : Int))]) (fun v7 w' => Nest w base p h v w' v (t.1, bad || !okn) z v7 (noteU t2 1 [4])) ?_ ?_
      rotate_left
      · intro K4 hK4
        refine call_ (ruL_ok base p z v2 t2 1 [4] 1 w6 nest6.inn rfl (by simp) room) ?_
        rintro e w7 ⟨rfl, v7, k7⟩
        refine ⟨_, rfl, ?_⟩
        exact hK4 v7 _ _ ⟨rfl, rfl, rfl, rfl, rfl, rfl, trivial⟩ (nest6.act k7)
      rintro v7 w7 fr7 nest7
      refine if_ (fun hbt => ?_) (fun hbt => ?_)
      rotate_left
      · exact hK3 (i, v7, _, bad || !okn) _ _ ⟨rfl, rfl, rfl, rfl, rfl, rfl, trivial⟩ ⟨nest7, step q2 (fun e => by rw [hbt] at e; cases e), Nat.le_refl _, by dsimp only; omega⟩
      · subst hbt
        have hinc : IntKind.i64.wrap ((i : Int) + 1) = ((i + 1 : Nat) : Int) := by
          rw [wrap_i64 (by omega) (by omega)]
          rfl
        refine seq_cut (σ := Unit) (fun _ => [(0, .pointer (some ⟨h, 0, none⟩)), (1, .slice Al xs.length cl), (2, .bool true), (6, zi ((dn.length + 1 : Nat) : Int)), (7, .pointer (some ⟨z, 0, none⟩)), (8, zi ((i + 1 : Nat) : Int))]) (fun _ w' => w' = w7) ?_ ?_
        rotate_left
        · intro K4 hK4
          exact hK4 () _ _ ⟨rfl, rfl, rfl, rfl, rfl, (show zi (IntKind.i64.wrap ((i : Int) + 1)) = _ by rw [hinc]), trivial⟩ rfl
        rintro _ wv frv hwv
        obtain rfl := hwv.symm
        have q3 : ∀ k : Bool, (k = true ↔ ∃ h : i + 1 < xs.length, xs[i + 1] = ty0) → TI true p.l t xs (i + 1 + 1) ((noteU t2 1 [4]).1, ((bad || !okn) || !k) || (noteU t2 1 [4]).2) (dn ++ [y]) := fun k hk => by
          have := long q2 rfl hk2 hk
          have e : (((bad || !okn) || (noteU t2 1 [4]).2) || !k) = (((bad || !okn) || !k) || (noteU t2 1 [4]).2) := by cases (bad || !okn) <;> cases (noteU t2 1 [4]).2 <;> cases k <;> rfl
          dsimp only at this
          rw [e] at this
          exact this
        refine if_p (fun hl2 => ?_) (fun hl2 => ?_)
        · replace hl2 : ((i + 1 : Nat) : Int) < (xs.length : Int) := hl2
          have hi2 : i + 1 < xs.length := by omega
          obtain ⟨_, _, he, _, gx2⟩ := (nest7.out.lrep tyOk (by decide) hl).get tyOk (by decide)
          cases he
          obtain ⟨a3, cs3, ea3, hx3, hc3⟩ := gx2 (i + 1) hi2
          obtain ⟨y3, hy3⟩ : ∃ y3, y3 = xs[i + 1] := ⟨_, rfl⟩
          rw [← hy3] at hx3
          obtain rfl := hx3
          refine And.intro (by omega) (And.intro hl2 ?_)
          refine some_at ea3 ?_
          refine loadN_row (vs := [zi y3.kind, strV y3.name]) (fun j u hu => by rw [Int.toNat_natCast]; exact hc3 j u hu) rfl ?_
          refine ty_eql (a := y3) (b := ty0) rfl rfl rfl ?_
          refine call_ (rmust_ok base p h v _ (decide (y3 = ty0)) w7 nest7.out.ri) ?_
          rintro e w8 ⟨rfl, k8⟩
          refine ⟨_, rfl, ?_⟩
          exact hK3 (i + 1, v7, _, _) _ _ ⟨rfl, rfl, rfl, rfl, rfl, rfl, trivial⟩ ⟨nest7.must k8, q3 _ (by rw [decide_eq_true_eq, hy3]; exact ⟨fun e => ⟨hi2, e⟩, fun e => e.2⟩), by dsimp only; omega, by dsimp only; omega⟩
        · replace hl2 : ¬ ((i + 1 : Nat) : Int) < (xs.length : Int) := hl2
          refine call_ (rmust_ok base p h v _ false w7 nest7.out.ri) ?_
          rintro e w8 ⟨rfl, k8⟩
          refine ⟨_, rfl, ?_⟩
          exact hK3 (i + 1, v7, _, _) _ _ ⟨rfl, rfl, rfl, rfl, rfl, rfl, trivial⟩ ⟨nest7.must k8, q3 false ⟨fun e => (by cases e), fun e => absurd e.1 (by omega)⟩, by dsimp only; omega, by dsimp only; omega⟩
    · replace h2 : ¬ kd = 2 := h2
      refine call_ (rmust_ok base p h v _ false w6 nest6.out.ri) ?_
      rintro e w7 ⟨rfl, k7⟩
      refine ⟨_, rfl, ?_⟩
      have q := ty_no (l := p.l) (t := t2) (y := y) (b := bad) (by omega)
      have e : ((bad || !okn) || !false) = true := by simp
      dsimp only at k7
      rw [e] at k7
      exact hK3 (i, v2, t2, true) _ _ ⟨rfl, rfl, rfl, rfl, rfl, rfl, trivial⟩ ⟨nest6.must k7, step q (fun _ => by omega), Nat.le_refl _, by dsimp only; omega⟩
  rintro ⟨dn, v2, t2, bad⟩ w3 fr3 ⟨i, n3, hi, ti⟩
  dsimp only at n3 ti
  have q := ti.done hi rfl
  have hdn := ti.2.1
  have hul := ti.2.2.1
  dsimp only at hul
  -- how many
  refine seq_cut (σ := Value) (fun _ => [(0, .pointer (some ⟨h, 0, none⟩)), (7, .pointer (some ⟨z, 0, none⟩))]) (fun v4 w' => Nest w base p h v w' v4 (noteU (t.1, bad) 2 [(dn.length : Int)]) z v2 t2) ?_ ?_
  rotate_left
  · intro K hK
    refine call_ (ruL_ok base p h v (t.1, bad) 2 [(dn.length : Int)] 1 w3 n3.out.ri rfl (by simp; omega) (by simp; omega)) ?_
    rintro e w4 ⟨rfl, v4, k4⟩
    refine ⟨_, rfl, ?_⟩
    exact hK v4 _ _ ⟨rfl, rfl, trivial⟩ (n3.must k4)
  rintro v4 w4 fr4 n4
  generalize noteU (t.1, bad) 2 [(dn.length : Int)] = t4 at n4 q
  have hq := q.1
  obtain ⟨A4, c4, rfl, _⟩ := own_slice n4.out.ri.own
  obtain ⟨A2, c2, rfl, _⟩ := own_slice n4.inn.own
  refine seq_cut (σ := Value) (fun _ => [(0, .pointer (some ⟨h, 0, none⟩)), (7, .pointer (some ⟨z, 0, none⟩))]) (fun v5 w' => Kr w base p h v w' v5 (t4.1 ++ t2.1, t4.2) ∧ w'.heap[z]? = some (.cells #[p.v, .slice A2 t2.1.length c2, .bool t2.2] 100 (0, 0))) ?_ ?_
  rotate_left
  · intro K hK
    refine draw_ (w := w4) ok (.q 0 (.q 1 (.q 2 (.q 3 (.q 4 (.q 5 (.q 6 (.q 7 (.q 8 (.e 9 (.q 10 (.q 11 (.e 12 .done))))))))))))) [12] (fun w'' : World => w''.heap[h]? = some (.cells #[p.v, .slice A4 t4.1.length c4, .bool t4.2] 100 (0, 0)) ∧ w''.heap[z]? = some (.cells #[p.v, .slice A2 t2.1.length c2, .bool t2.2] 100 (0, 0))) (by kernel_rfl) (by kernel_rfl) (by kernel_rfl) (by kernel_rfl) (by kernel_rfl) ⟨(New.drew w4).blk n4.out.ri.blk, (New.drew w4).blk n4.inn.blk⟩ ?_
    refine Exists.intro A4 (Exists.intro t4.1.length (Exists.intro c4 (And.intro (fun w'' hw => cellB hw.1 rfl) ?_)))
    refine Exists.intro A2 (Exists.intro t2.1.length (Exists.intro c2 (And.intro (fun w'' hw => cellB hw.2 rfl) ?_)))
    have nd := New.drew w4
    have nnd := n4.new nd
    obtain ⟨_, _, he, _, _, row2, _⟩ := own_slice nnd.inn.own
    cases he
    refine eff_app rfl rfl (fun _ _ => rfl) ?_
    refine append2_ ok rfl rfl rfl rfl nnd.out.ri.own rfl rfl row2 (by rw [bvs_length]; exact (Nat.mul_one _).symm) (bvs_one _) (by decide) rfl (by show (t4.1.length + t2.1.length) * 1 ≤ _; simp only [List.length_append] at hq; omega) (by simp only [List.length_append] at hq; omega) nnd.out.ri.bw ?_
    intro A7 c7 w7 own7 mod7 st7
    have hb7 := mod7.blk nnd.out.ri.blk (fun e => nnd.out.ri.off e.symm)
    have hz7 := mod7.blk nnd.inn.blk (fun e => nnd.sep z (.inr rfl) (.inl e))
    refine Exists.intro (fun w'' : World => w''.heap[h]? = some (.cells #[p.v, .slice A4 t4.1.length c4, .bool t4.2] 100 (0, 0)) ∧ w''.heap[z]? = some (.cells #[p.v, .slice A2 t2.1.length c2, .bool t2.2] 100 (0, 0))) ?_
    refine And.intro (fun _ h => h) ?_
    refine And.intro ⟨hb7, hz7⟩ ?_
    refine And.intro ⟨_, cellB hb7 rfl⟩ (And.intro (fzB hb7 _) (force_ ?_))
    refine stK hb7 (show (1 : Nat) < 3 by decide) ?_
    intro w8 hb8 m8 s8
    exact hK (.slice A7 (t4.1.length + t2.1.length) c7) _ _ ⟨rfl, rfl, trivial⟩ (n4.add nd mod7 own7 st7 m8 hb8)
  rintro v5 w5 fr5 ⟨k5, hz5⟩
  refine Exists.intro t2.2 (And.intro (cellB hz5 rfl) ?_)
  refine call_ (rmust_ok base p h v5 _ (!t2.2) w5 k5.ri) ?_
  rintro e w6 ⟨rfl, k6⟩
  refine ⟨_, rfl, ?_⟩
  rw [Bool.not_not] at k6
  exact ⟨rfl, v5, _, k5.then k6, q⟩

end Go.Proofs.YtdcaafldnbcdkaaDoor.Class

/-! ### KRef5 -/
namespace Go.Proofs.YtdcaafldnbcdkaaDoor.Class
open Go Go.Proofs.YtdcaafldnbcdkaaDoor Go.Proofs.YtdcaafldnbcdkaaDoor.Eng Go.Proofs Go.Proofs.YtdcaafldnbcdkaaDoor.Word Go.Proofs.YtdcaafldnbcdkaaDoor.Fmt
open Go.Proofs.YtdcaafldnbcdkaaDoor.Pool (Ent at_ poolF strV entC entV EntOk Pl OkPool both own_low tagAt)
set_option maxRecDepth 10000

/-- Numbers of 64 bits. -/
def iHnd (h : Hnd) : Prop := i64 h.from_ ∧ i64 h.to ∧ i64 h.at_ ∧ i64 h.cls
def iCod (c : Cod) : Prop := i64 c.stack ∧ i64 c.locals ∧ (∀ h ∈ c.hands, iHnd h) ∧ ∀ m ∈ c.maps, i64 m.at_
def iCls (c : Cls) : Prop := ∀ m ∈ c.methods, iCod m.code
theorem Wri.keep {α : Type} {T : Tell α} {c : Nat} {t t1 : WT} {x : α} (h : Wri T c t x t1) (e : t1.2 = false) : t.2 = false := by
  rcases h.2 with ⟨a, _⟩ | ⟨_, a, _⟩
  · rw [e] at a; cases a
  · exact a
/-- A number, cut to what two bytes hold. -/
abbrev clamp (a : Int) : Int := if 0 < (if 65535 < a then 65535 else a) then (if 65535 < a then 65535 else a) else 0
theorem clamp_bd (a : Int) : -9223372036854775808 ≤ clamp a ∧ clamp a ≤ 9223372036854775807 := by
  unfold clamp
  by_cases h1 : 65535 < a
  · rw [if_pos h1, if_pos (by decide)]
    decide
  · rw [if_neg h1]
    by_cases h2 : 0 < a
    · rw [if_pos h2]; omega
    · rw [if_neg h2]; decide
theorem clamp_id {a : Int} (h0 : 0 ≤ a) (h1 : a ≤ 65535) : clamp a = a := by
  unfold clamp
  rw [if_neg (by omega : ¬ 65535 < a)]
  split <;> omega
theorem n2_lo {z : Int} (h : n2.ok z) : 0 ≤ z := by
  have h1 : Word.fits ((2 : Nat) : Int) z false = true := h.1
  simp [Word.fits] at h1
  omega
theorem Kr.wide {α : Type} {R : RepT α} {sz : Nat} {w w' : World} {base h : Nat} {p : Po} {v v' vl : Value} {t : WT} {xs : List α} (k : Kr w base p h v w' v' t) (hR : RepOk R sz) (hsz : 0 < sz) (hl : LRep R w (RHb h v) vl xs) : LRep R w' (fun q => RHb h v q ∨ w.heap.size ≤ q) vl xs :=
  LRep.mod hR hsz (LRep.weak (S' := fun q => RHb h v q ∨ w.heap.size ≤ q) hR hl fun b hb e => e.resolve_right (by omega)) (k.mod.mono fun _ _ e => .inl e)
abbrev mpC (y : Mp) (A1 : Option Addr) (c1 : Nat) (A2 : Option Addr) (c2 : Nat) : Array Value := #[zi y.at_, .slice A1 y.locals.length c1, .slice A2 y.stack.length c2]
/-- A map that is being told by an inner writer. -/
structure Mb (w0 : World) (base : Nat) (p : Po) (h : Nat) (v v7 : Value) (t7 : WT) (z E : Nat) (y : Mp) (A1 : Option Addr) (c1 : Nat) (A2 : Option Addr) (c2 : Nat) (wl : World) (v' : Value) (t' : WT) : Prop where
  nest : Nest w0 base p h v wl v7 t7 z v' t'
  blk : wl.heap[E]? = some (.cells (mpC y A1 c1 A2 c2) 49 (0, 0))
  hid : ¬ RHb z v' E
  l1 : LRep tyR wl (fun q => RHb h v q ∨ w0.heap.size ≤ q) (.slice A1 y.locals.length c1) y.locals
  l2 : LRep tyR wl (fun q => RHb h v q ∨ w0.heap.size ≤ q) (.slice A2 y.stack.length c2) y.stack
theorem Mb.act {w0 wl w' : World} {base h z E : Nat} {p : Po} {v v7 v' v'' : Value} {t7 t' t'' : WT} {y : Mp} {A1 A2 : Option Addr} {c1 c2 : Nat} (m : Mb w0 base p h v v7 t7 z E y A1 c1 A2 c2 wl v' t') (k : Kr wl base p z v' w' v'' t'') : Mb w0 base p h v v7 t7 z E y A1 c1 A2 c2 w' v'' t'' := by
  have hl := (Array.getElem?_eq_some_iff.1 m.blk).1
  refine ⟨m.nest.act k, k.blk m.blk m.hid, k.hid hl m.hid, LRep.mod tyOk (by decide) m.l1 (k.mod.mono fun q _ e => .inr (m.nest.at_ q e)), LRep.mod tyOk (by decide) m.l2 (k.mod.mono fun q _ e => .inr (m.nest.at_ q e))⟩
theorem mp_sum {l : List Ent} {last zz : Int} {y : Mp} {u t3 t4 t5 t6 : WT} {bm bb : Bool} (hl : (bm || u.2) = false → -1 ≤ last ∧ last ≤ 65535) (hbb : bb = true ↔ last < y.at_ ∧ y.at_ ≤ 65535) (hz : -1 ≤ last ∧ last ≤ 65535 → last < y.at_ ∧ y.at_ ≤ 65535 → zz = y.at_ - last - 1)
    (q1 : Wri n1 1 (u.1, u.2 || !bb) 255 t3) (q2 : Wri n2 2 t3 zz t4) (q3 : Wri (lcsT l) (2 + 3 * y.locals.length) t4 y.locals t5) (q4 : Wri (stkT l) (2 + 3 * y.stack.length) t5 y.stack t6) :
    Wri (mapT l last) (cMp y) (u.1, bm || u.2) y (t6.1, bm || t6.2) ∧ ((bm || t6.2) = false → -1 ≤ y.at_ ∧ y.at_ ≤ 65535) := by
  have hlen : t6.1.length ≤ u.1.length + cMp y := by
    have h1 := q1.1
    have h2 := q2.1
    have h3 := q3.1
    have h4 := q4.1
    dsimp only at h1
    unfold cMp
    omega
  have back : t6.2 = false → (u.2 || !bb) = false := fun e => q1.keep (q2.keep (q3.keep (q4.keep e)))
  constructor
  · by_cases hu : (bm || u.2) = true
    · refine ⟨hlen, .inl ⟨?_, .inl hu⟩⟩
      cases hb : bm with
      | true => rfl
      | false =>
        rw [hb, Bool.false_or] at hu
        cases h6 : t6.2 with
        | true => rfl
        | false =>
          have := back h6
          rw [hu] at this
          cases this
    · rw [Bool.not_eq_true] at hu
      cases hb : bb with
      | false =>
        refine Wri.nok ?_ hlen fun o => ?_
        · cases h6 : t6.2 with
          | true => simp
          | false =>
            have := back h6
            rw [hb] at this
            simp at this
        · have := hbb.2 o.1
          rw [hb] at this
          cases this
      | true =>
        have hP := hbb.1 hb
        have hzz := hz (hl hu) hP
        subst hzz
        have q := Wri.by (p := bb) (P := fun m : Mp => last < m.at_ ∧ m.at_ ≤ 65535) (f := fun m : Mp => (255, m.at_ - last - 1, m.locals, m.stack)) (hf := fun x y _ _ e => by
          cases x; cases y; simp only [Prod.mk.injEq] at e; obtain ⟨_, e1, e2, e3⟩ := e; subst e2 e3; congr 1; omega) (t := u) (q1.seq (q2.seq (q3.seq q4))) rfl hbb
        exact (Wri.le q (by unfold cMp; omega)).mark bm
  · intro e
    rw [Bool.or_eq_false_iff] at e
    have h1 := back e.2
    rw [Bool.or_eq_false_iff] at h1
    have hb : bb = true := by
      have := h1.2
      revert this
      cases bb <;> decide
    have hP := hbb.1 hb
    have := hl (by rw [e.1, h1.1]; rfl)
    omega
theorem refcode_ok (base : Nat) (p : Po) (h : Nat) (v : Value) (t : WT) (cs : List Value) (x : Cod) (w : World) (c : Ri w base p h v t) (hO : OkPool p.l) (hx : codR w (RHb h v) cs x) (hi : iCod x) (hm : t.1.length + cCod x ≤ 1000000000) :
    Calls Tryd.prog 56 #[.pointer (some ⟨h, 0, none⟩), .agg cs.toArray] w fun e w' => e = .returned (.tuple #[]) ∧ ∃ v' t', Kr w base p h v w' v' t' ∧ Wri (codT p.l) (cCod x) t x t' := by
  obtain ⟨_, _, _, rfl, hb0, hh0, hm0⟩ := hx
  obtain ⟨Ab, cb, rfl, hnb, _⟩ := hb0.get u8Ok (by decide)
  obtain ⟨Ah, ch, rfl, hnh, _⟩ := hh0.get hndOk (by decide)
  obtain ⟨Am, cm, rfl, hnm, _⟩ := hm0.get mpOk (by decide)
  obtain ⟨hi1, hi2, hi3, hi4⟩ := hi
  unfold i64 at hi1 hi2
  have hcost : cCod x = 4 + (4 + x.bytes.length) + (2 + csum cHnd x.hands) + (10 + csum cMp x.maps) := rfl
  have hbw := c.bw
  refine enter ok Tryd.func56 rfl rfl rfl ?_
  obtain ⟨M, hMe⟩ : ∃ M, M = w.heap.size := ⟨_, rfl⟩
  refine seq_cut (σ := Unit) (fun _ => [(0, .pointer (some ⟨h, 0, none⟩)), (3, .pointer (some ⟨M, 0, none⟩))]) (fun _ w' => New w w' ∧ w'.heap[M]? = some (.cells #[zi x.stack, zi x.locals, .slice Ab x.bytes.length cb, .slice Ah x.hands.length ch, .slice Am x.maps.length cm] 34 (0, 0))) ?_ ?_
  rotate_left
  · intro K hK
    rw [hMe] at hK
    exact hK () _ _ ⟨rfl, rfl, trivial⟩ ⟨New.alloc w _, heap_alloc_new w (.cells #[zi x.stack, zi x.locals, .slice Ab x.bytes.length cb, .slice Ah x.hands.length ch, .slice Am x.maps.length cm] 34)⟩
  rintro _ w0 fr0 ⟨n0, hM0⟩
  have c0 := c.new n0
  have k00 := (Kr.refl c).new n0
  have hMn : ¬ RHb h v M := c.hi (by omega)
  have hb1 := k00.lrep u8Ok (by decide) hb0
  have hh1 := k00.lrep hndOk (by decide) hh0
  have hm1 := k00.lrep mpOk (by decide) hm0
  have hbw0 := c0.bw
  have hC : ∀ b : Bool, (b = true ↔ 0 ≤ x.stack ∧ x.stack ≤ 64 ∧ 0 ≤ x.locals ∧ x.locals ≤ 64 ∧ 1 ≤ x.bytes.length ∧ x.bytes.length ≤ 4096 ∧ x.hands.length ≤ 256 ∧ x.maps.length ≤ 256) → (codT p.l).ok x → b = true := fun b hb o => by
    obtain ⟨⟨o1, o2, o3, o4⟩, o5, o6, o7, o8, o9⟩ := o
    refine hb.2 ⟨(n2_lo o5), o1, (n2_lo o6), o2, o3, o4, o8.1, ?_⟩
    rcases o9 with o9 | o9
    · dsimp only at o9
      rw [o9]
      decide
    · exact o9.2.1
  refine seq_cut (σ := Bool) (fun _ => [(0, .pointer (some ⟨h, 0, none⟩)), (3, .pointer (some ⟨M, 0, none⟩))]) (fun b w' => Kr w0 base p h v w' v (t.1, t.2 || !b) ∧ (b = true ↔ 0 ≤ x.stack ∧ x.stack ≤ 64 ∧ 0 ≤ x.locals ∧ x.locals ≤ 64 ∧ 1 ≤ x.bytes.length ∧ x.bytes.length ≤ 4096 ∧ x.hands.length ≤ 256 ∧ x.maps.length ≤ 256)) ?_ ?_
  rotate_left
  · intro K hK
    have fin : ∀ b : Bool, (b = true ↔ 0 ≤ x.stack ∧ x.stack ≤ 64 ∧ 0 ≤ x.locals ∧ x.locals ≤ 64 ∧ 1 ≤ x.bytes.length ∧ x.bytes.length ≤ 4096 ∧ x.hands.length ≤ 256 ∧ x.maps.length ≤ 256) → ∀ K' : Value → World → Prop, (∀ w', Kr w0 base p h v w' v (t.1, t.2 || !b) → K' (.tuple #[]) w') → callQ Tryd.prog 54 [.pointer (some ⟨h, 0, none⟩), .bool b] w0 K' := fun b hb K' hK' => by
      refine call_ (rmust_ok base p h v t b w0 c0) ?_
      rintro e w2 ⟨rfl, k2⟩
      exact ⟨_, rfl, hK' w2 k2⟩
    refine Exists.intro x.stack (And.intro (cellB hM0 rfl) ?_)
    refine if_p (fun h0 => ?_) (fun h0 => ?_)
    · replace h0 : 0 ≤ x.stack := h0
      refine Exists.intro x.stack (And.intro (cellB hM0 rfl) ?_)
      refine if_p (fun h1 => ?_) (fun h1 => ?_)
      · replace h1 : x.stack ≤ 64 := h1
        refine Exists.intro x.locals (And.intro (cellB hM0 rfl) ?_)
        refine if_p (fun h2 => ?_) (fun h2 => ?_)
        · replace h2 : 0 ≤ x.locals := h2
          refine Exists.intro x.locals (And.intro (cellB hM0 rfl) ?_)
          refine if_p (fun h3 => ?_) (fun h3 => ?_)
          · replace h3 : x.locals ≤ 64 := h3
            refine Exists.intro Ab (Exists.intro x.bytes.length (Exists.intro cb (And.intro (cellB hM0 rfl) ?_)))
            refine if_p (fun h4 => ?_) (fun h4 => ?_)
            · replace h4 : 1 ≤ (x.bytes.length : Int) := h4
              refine Exists.intro Ab (Exists.intro x.bytes.length (Exists.intro cb (And.intro (cellB hM0 rfl) ?_)))
              refine if_p (fun h5 => ?_) (fun h5 => ?_)
              · replace h5 : (x.bytes.length : Int) ≤ 4096 := h5
                refine Exists.intro Ah (Exists.intro x.hands.length (Exists.intro ch (And.intro (cellB hM0 rfl) ?_)))
                refine if_p (fun h6 => ?_) (fun h6 => ?_)
                · replace h6 : (x.hands.length : Int) ≤ 256 := h6
                  refine Exists.intro Am (Exists.intro x.maps.length (Exists.intro cm (And.intro (cellB hM0 rfl) ?_)))
                  have hb : decide ((x.maps.length : Int) ≤ 256) = true ↔ 0 ≤ x.stack ∧ x.stack ≤ 64 ∧ 0 ≤ x.locals ∧ x.locals ≤ 64 ∧ 1 ≤ x.bytes.length ∧ x.bytes.length ≤ 4096 ∧ x.hands.length ≤ 256 ∧ x.maps.length ≤ 256 := by
                    rw [decide_eq_true_eq]
                    exact ⟨fun e => (by omega : 0 ≤ x.stack ∧ x.stack ≤ 64 ∧ 0 ≤ x.locals ∧ x.locals ≤ 64 ∧ 1 ≤ x.bytes.length ∧ x.bytes.length ≤ 4096 ∧ x.hands.length ≤ 256 ∧ x.maps.length ≤ 256), fun e => by omega⟩
                  exact fin _ hb _ fun w' k' => hK _ _ _ ⟨rfl, rfl, trivial⟩ ⟨k', hb⟩
                · replace h6 : ¬ (x.hands.length : Int) ≤ 256 := h6
                  exact fin false ⟨fun e => (by cases e), fun e => absurd e (by omega)⟩ _ fun w' k' => hK false _ _ ⟨rfl, rfl, trivial⟩ ⟨k', ⟨fun e => (by cases e), fun e => absurd e (by omega)⟩⟩
              · replace h5 : ¬ (x.bytes.length : Int) ≤ 4096 := h5
                exact fin false ⟨fun e => (by cases e), fun e => absurd e (by omega)⟩ _ fun w' k' => hK false _ _ ⟨rfl, rfl, trivial⟩ ⟨k', ⟨fun e => (by cases e), fun e => absurd e (by omega)⟩⟩
            · replace h4 : ¬ 1 ≤ (x.bytes.length : Int) := h4
              exact fin false ⟨fun e => (by cases e), fun e => absurd e (by omega)⟩ _ fun w' k' => hK false _ _ ⟨rfl, rfl, trivial⟩ ⟨k', ⟨fun e => (by cases e), fun e => absurd e (by omega)⟩⟩
          · replace h3 : ¬ x.locals ≤ 64 := h3
            exact fin false ⟨fun e => (by cases e), fun e => absurd e (by omega)⟩ _ fun w' k' => hK false _ _ ⟨rfl, rfl, trivial⟩ ⟨k', ⟨fun e => (by cases e), fun e => absurd e (by omega)⟩⟩
        · replace h2 : ¬ 0 ≤ x.locals := h2
          exact fin false ⟨fun e => (by cases e), fun e => absurd e (by omega)⟩ _ fun w' k' => hK false _ _ ⟨rfl, rfl, trivial⟩ ⟨k', ⟨fun e => (by cases e), fun e => absurd e (by omega)⟩⟩
      · replace h1 : ¬ x.stack ≤ 64 := h1
        exact fin false ⟨fun e => (by cases e), fun e => absurd e (by omega)⟩ _ fun w' k' => hK false _ _ ⟨rfl, rfl, trivial⟩ ⟨k', ⟨fun e => (by cases e), fun e => absurd e (by omega)⟩⟩
    · replace h0 : ¬ 0 ≤ x.stack := h0
      exact fin false ⟨fun e => (by cases e), fun e => absurd e (by omega)⟩ _ fun w' k' => hK false _ _ ⟨rfl, rfl, trivial⟩ ⟨k', ⟨fun e => (by cases e), fun e => absurd e (by omega)⟩⟩
  rintro b w1 fr1 ⟨k1, hb⟩
  have hM1 := k1.blk hM0 hMn
  refine seq_cut (σ := Value × WT) (fun _ => [(0, .pointer (some ⟨h, 0, none⟩)), (3, .pointer (some ⟨M, 0, none⟩))]) (fun s w' => Kr w0 base p h v w' s.1 s.2 ∧ Wri (seqT n2 n2) 4 (t.1, t.2 || !b) (x.stack, x.locals) s.2) ?_ ?_
  rotate_left
  · intro K hK
    refine Exists.intro x.stack (And.intro (cellB hM1 rfl) ?_)
    refine Exists.intro x.locals (And.intro (cellB hM1 rfl) ?_)
    refine call_ (ruL_ok base p h v (t.1, t.2 || !b) 2 [x.stack, x.locals] 2 w1 k1.ri rfl (fun q hq => ?_) (by simp; omega)) ?_
    · rcases List.mem_cons.1 hq with rfl | hq
      · exact hi1
      · rw [List.mem_singleton.1 hq]; exact hi2
    rintro e w2 ⟨rfl, v2, k2⟩
    refine ⟨_, rfl, ?_⟩
    exact hK (v2, _) _ _ ⟨rfl, rfl, trivial⟩ ⟨k1.then k2, Wri.two⟩
  rintro ⟨v2, t2⟩ w2 fr2 ⟨k2, q2⟩
  dsimp only at k2 q2
  have p2 := q2.1
  dsimp only at p2
  have hM2 := k2.blk hM0 hMn
  refine seq_cut (σ := Value) (fun _ => [(0, .pointer (some ⟨h, 0, none⟩)), (3, .pointer (some ⟨M, 0, none⟩))]) (fun v' w' => Kr w0 base p h v w' v' (t2.1 ++ enc 4 (x.bytes.length : Int), t2.2)) ?_ ?_
  rotate_left
  · intro K hK
    refine Exists.intro Ab (Exists.intro x.bytes.length (Exists.intro cb (And.intro (cellB hM2 rfl) ?_)))
    refine call_ (ruL_ok base p h v2 t2 4 [(x.bytes.length : Int)] 1 w2 k2.ri rfl (by simp; omega) (by simp; omega)) ?_
    rintro e w3 ⟨rfl, v3, k3⟩
    refine ⟨_, rfl, ?_⟩
    rw [noteU4 (by omega)] at k3
    exact hK v3 _ _ ⟨rfl, rfl, trivial⟩ (k2.then k3)
  rintro v3 w3 fr3 k3
  have hM3 := k3.blk hM0 hMn
  refine seq_cut (σ := Value × WT) (fun _ => [(0, .pointer (some ⟨h, 0, none⟩)), (3, .pointer (some ⟨M, 0, none⟩))]) (fun s w' => Kr w0 base p h v w' s.1 s.2 ∧ Wri blobT (4 + x.bytes.length) t2 x.bytes s.2) ?_ ?_
  rotate_left
  · intro K hK
    obtain ⟨t3, ht3⟩ : ∃ t3, t3 = (t2.1 ++ enc 4 (x.bytes.length : Int), t2.2) := ⟨_, rfl⟩
    rw [← ht3] at k3
    have hl3 : t3.1.length = t2.1.length + 4 := by rw [ht3]; simp only [List.length_append, enc_length]
    obtain ⟨A3, c3, rfl, _⟩ := own_slice k3.ri.own
    have nd := New.drew w3
    refine draw_ (w := w3) ok (.q 0 (.q 1 (.q 2 (.q 3 (.q 4 (.q 5 (.q 6 (.e 7 (.q 8 (.q 9 (.e 10 .done))))))))))) [10] (fun w'' : World => w''.heap[h]? = some (.cells #[p.v, .slice A3 t3.1.length c3, .bool t3.2] 100 (0, 0)) ∧ w''.heap[M]? = some (.cells #[zi x.stack, zi x.locals, .slice Ab x.bytes.length cb, .slice Ah x.hands.length ch, .slice Am x.maps.length cm] 34 (0, 0))) (by kernel_rfl) (by kernel_rfl) (by kernel_rfl) (by kernel_rfl) (by kernel_rfl) ⟨nd.blk k3.ri.blk, nd.blk hM3⟩ ?_
    refine Exists.intro A3 (Exists.intro t3.1.length (Exists.intro c3 (And.intro (fun w'' hw => cellB hw.1 rfl) ?_)))
    refine Exists.intro Ab (Exists.intro x.bytes.length (Exists.intro cb (And.intro (fun w'' hw => cellB hw.2 rfl) ?_)))
    have kd := k3.new nd
    obtain ⟨_, _, he, row, _⟩ := bytes_row (LRep.weak (S' := fun b => False) u8Ok (kd.lrep u8Ok (by decide) hb1) fun _ _ e => e.elim)
    cases he
    refine eff_app rfl rfl (fun _ _ => rfl) ?_
    refine append2_ ok rfl rfl rfl rfl kd.ri.own rfl rfl row (by rw [bvs_length]; exact (Nat.mul_one _).symm) (bvs_one _) (by decide) rfl (by show (t3.1.length + x.bytes.length) * 1 ≤ _; omega) (by omega) kd.ri.bw ?_
    intro A7 c7 w7 own7 mod7 st7
    have hb7 := mod7.blk kd.ri.blk (fun e => kd.ri.off e.symm)
    have hM7 := mod7.blk (nd.blk hM3) (fun e => k3.hid (Array.getElem?_eq_some_iff.1 hM0).1 hMn (.inl e))
    refine Exists.intro (fun w'' : World => w''.heap[h]? = some (.cells #[p.v, .slice A3 t3.1.length c3, .bool t3.2] 100 (0, 0)) ∧ w''.heap[M]? = some (.cells #[zi x.stack, zi x.locals, .slice Ab x.bytes.length cb, .slice Ah x.hands.length ch, .slice Am x.maps.length cm] 34 (0, 0))) ?_
    refine And.intro (fun _ h => h) ?_
    refine And.intro ⟨hb7, hM7⟩ ?_
    refine And.intro ⟨_, cellB hb7 rfl⟩ (And.intro (fzB hb7 _) (force_ ?_))
    refine stK hb7 (show (1 : Nat) < 3 by decide) ?_
    intro w8 hb8 m8 s8
    have k8 := kd.ri.put (bs := t3.1 ++ x.bytes) mod7 (by rw [List.length_append, bvs_append]; exact own7) st7 m8 hb8
    refine hK (.slice A7 (t3.1.length + x.bytes.length) c7, (t3.1 ++ x.bytes, t3.2)) _ _ ⟨rfl, rfl, trivial⟩ ⟨kd.then k8, ?_⟩
    rw [ht3]
    dsimp only
    rw [List.append_assoc]
    exact Wri.blob (by omega)
  rintro ⟨v4, t4⟩ w4 fr4 ⟨k4, q4⟩
  dsimp only at k4 q4
  have p4 := q4.1
  have hM4 := k4.blk hM0 hMn
  have bad4 : t4.2 = false → b = true := fun e => by
    have := q2.keep (q4.keep e)
    rw [Bool.or_eq_false_iff] at this
    have h2 := this.2
    revert h2
    cases b <;> decide
  refine seq_cut (σ := Value × WT) (fun _ => [(0, .pointer (some ⟨h, 0, none⟩)), (3, .pointer (some ⟨M, 0, none⟩))]) (fun s w' => Kr w0 base p h v w' s.1 s.2 ∧ Wri n2 2 (t4.1, t4.2 || !decide (x.hands.length ≤ 256)) (x.hands.length : Int) s.2) ?_ ?_
  rotate_left
  · intro K hK
    refine Exists.intro Ah (Exists.intro x.hands.length (Exists.intro ch (And.intro (cellB hM4 rfl) ?_)))
    refine call_ (ruL_ok base p h v4 t4 2 [(x.hands.length : Int)] 1 w4 k4.ri rfl (by simp; omega) (by simp; omega)) ?_
    rintro e w5 ⟨rfl, v5, k5⟩
    refine ⟨_, rfl, ?_⟩
    have e4 : (t4.1, t4.2 || !decide (x.hands.length ≤ 256)) = t4 := by
      cases ht : t4.2 with
      | true => rw [← ht, Prod.mk.injEq]; exact ⟨rfl, by rw [ht]; rfl⟩
      | false =>
        have := (hb.1 (bad4 ht)).2.2.2.2.2.2.1
        rw [decide_eq_true this, ← ht, Prod.mk.injEq]
        exact ⟨rfl, by rw [ht]; rfl⟩
    exact hK (v5, _) _ _ ⟨rfl, rfl, trivial⟩ ⟨k4.then k5, by rw [e4]; exact Wri.n2⟩
  rintro ⟨v5, t5⟩ w5 fr5 ⟨k5, wr5⟩
  dsimp only at k5 wr5
  -- its handlers
  refine seq_cut (σ := Value × WT) (fun _ => [(0, .pointer (some ⟨h, 0, none⟩)), (3, .pointer (some ⟨M, 0, none⟩))]) (fun s w' => Kr w0 base p h v w' s.1 s.2 ∧ Wri (hndsT p.l) (2 + csum cHnd x.hands) t4 x.hands s.2) ?_ ?_
  rotate_left
  · intro K hK
    refine seq_assign ?_
    refine den_loop (σ := Nat × Value × WT) (fun s => [(0, .pointer (some ⟨h, 0, none⟩)), (3, .pointer (some ⟨M, 0, none⟩)), (4, zi (s.1 : Int))]) (fun m s wl => x.hands.length ≤ m + s.1 ∧ s.1 ≤ x.hands.length ∧ Kr w0 base p h v wl s.2.1 s.2.2 ∧ WLst (hndT p.l) 256 cHnd t4 x.hands s.1 s.2.2) x.hands.length (0, v5, t5) ⟨rfl, rfl, rfl, trivial⟩ ⟨by dsimp only; omega, Nat.zero_le _, k5, WLst.start (by decide) wr5⟩ ?_
    rintro m ⟨i, vl, tl⟩ wl frl ⟨hfuel, hil, kl, hw⟩
    dsimp only at hfuel hil kl hw
    have hMl := kl.blk hM0 hMn
    refine seq_cut (σ := Unit) (fun _ => [(0, .pointer (some ⟨h, 0, none⟩)), (3, .pointer (some ⟨M, 0, none⟩)), (4, zi (i : Int))]) (fun _ w' => w' = wl ∧ i < x.hands.length) ?_ ?_
    rotate_left
    · intro K2 hK2
      refine Exists.intro Ah (Exists.intro x.hands.length (Exists.intro ch (And.intro (cellB hMl rfl) ?_)))
      refine if_p (fun hlt => ?_) (fun hge => ?_)
      · replace hlt : (i : Int) < (x.hands.length : Int) := hlt
        exact hK2 () _ _ ⟨rfl, rfl, rfl, trivial⟩ ⟨rfl, by omega⟩
      · replace hge : ¬ (i : Int) < (x.hands.length : Int) := hge
        have e : i = x.hands.length := by omega
        subst e
        exact hK (vl, tl) _ _ ⟨rfl, rfl, trivial⟩ ⟨kl, hw.done⟩
    rintro _ wy fry ⟨hwy, hi⟩
    obtain rfl := hwy.symm
    have hlt : (i : Int) < (x.hands.length : Int) := by omega
    obtain ⟨m, rfl⟩ : ∃ m', m = m' + 1 := ⟨m - 1, by omega⟩
    obtain ⟨_, _, he, _, gx⟩ := (kl.lrep hndOk (by decide) hh1).get hndOk (by decide)
    cases he
    obtain ⟨a, cs, ea, hx, hc⟩ := gx i hi
    have hin := hi3 _ (List.getElem_mem hi)
    have hcs : csum cHnd (x.hands.take i) + cHnd x.hands[i] ≤ csum cHnd x.hands := by
      have h1 := csum_le cHnd x.hands (i + 1)
      rw [List.take_succ_eq_append_getElem hi, csum_snoc] at h1
      exact h1
    have hw1 := hw.1
    obtain ⟨y, hy⟩ : ∃ y, y = x.hands[i] := ⟨_, rfl⟩
    rw [← hy] at hx hin hcs
    have hx0 := hx
    obtain rfl := hx
    refine seq_cut (σ := Value × WT) (fun _ => [(0, .pointer (some ⟨h, 0, none⟩)), (3, .pointer (some ⟨M, 0, none⟩)), (4, zi (i : Int))]) (fun s w' => Kr w0 base p h v w' s.1 s.2 ∧ Wri (hndT p.l) (cHnd y) tl y s.2) ?_ ?_
    · rintro ⟨v6, t6⟩ w6 fr6 ⟨k6, q6⟩
      dsimp only at k6 q6
      have inc := incN hi hnh
      exact ⟨m, (i + 1, v6, t6), by omega, ⟨rfl, rfl, inc, trivial⟩, by dsimp only; omega, by dsimp only; omega, k6, hw.step hi (by rw [← hy]; exact q6)⟩
    intro K3 hK3
    refine block_ ?_
    obtain ⟨E, hE⟩ : ∃ E, E = wl.heap.size := ⟨_, rfl⟩
    refine seq_cut (σ := Unit) (fun _ => [(0, .pointer (some ⟨h, 0, none⟩)), (3, .pointer (some ⟨M, 0, none⟩)), (4, zi (i : Int)), (5, .pointer (some ⟨E, 0, none⟩))]) (fun _ w' => New wl w' ∧ w'.heap[E]? = some (.cells #[zi y.from_, zi y.to, zi y.at_, zi y.cls] 46 (0, 0))) ?_ ?_
    rotate_left
    · intro K4 hK4
      refine Exists.intro Ah (Exists.intro x.hands.length (Exists.intro ch (And.intro (cellB hMl rfl) ?_)))
      refine And.intro (by omega) (And.intro hlt ?_)
      refine some_at ea ?_
      refine loadN_row (vs := [zi y.from_, zi y.to, zi y.at_, zi y.cls]) (fun j u hu => by rw [Int.toNat_natCast]; exact hc j u hu) rfl ?_
      refine And.intro rfl ?_
      refine storeNew (vs := [zi y.from_, zi y.to, zi y.at_, zi y.cls]) (arr := #[zi 0, zi 0, zi 0, zi 0]) rfl (hndOk.one hx0) ?_
      intro w6 hb6 n6 s6
      rw [hE] at hK4
      exact hK4 () _ _ ⟨rfl, rfl, rfl, rfl, trivial⟩ ⟨n6, hb6⟩
    rintro _ w6 fr6 ⟨n6, hE6⟩
    have k6 := kl.new n6
    have hEn : ¬ RHb h vl E := kl.ri.hi (by omega)
    refine seq_cut (σ := Bool) (fun _ => [(0, .pointer (some ⟨h, 0, none⟩)), (3, .pointer (some ⟨M, 0, none⟩)), (4, zi (i : Int)), (5, .pointer (some ⟨E, 0, none⟩))]) (fun b w' => Kr w6 base p h vl w' vl (tl.1, tl.2 || !b) ∧ (b = true ↔ y.cls = 0 ∨ 0 < y.cls ∧ y.cls < (p.l.length : Int) ∧ (at_ p.l y.cls).tag = 7)) ?_ ?_
    rotate_left
    · intro K4 hK4
      have nd := New.drew w6
      have fin : ∀ b : Bool, (b = true ↔ y.cls = 0 ∨ 0 < y.cls ∧ y.cls < (p.l.length : Int) ∧ (at_ p.l y.cls).tag = 7) → ∀ K' : Value → World → Prop, (∀ w', Kr w6 base p h vl w' vl (tl.1, tl.2 || !b) → K' (.tuple #[]) w') → callQ Tryd.prog 54 [.pointer (some ⟨h, 0, none⟩), .bool b] w6.drew K' := fun b hb K' hK' => by
        refine call_ (rmust_ok base p h vl tl b w6.drew (k6.ri.new nd)) ?_
        rintro e w2 ⟨rfl, k2⟩
        exact ⟨_, rfl, hK' w2 (((Kr.refl k6.ri).new nd).then k2)⟩
      refine draw_ (w := w6) ok (.q 0 (.q 1 (.q 2 (.q 3 (.q 4 (.q 5 (.q 6 (.q 7 (.q 8 (.q 9 (.q 10 (.q 11 (.q 12 (.q 13 (.q 14 (.q 15 (.q 16 (.q 17 (.q 18 (.q 19 (.q 20 (.q 21 (.q 22 (.q 23 (.q 24 (.q 25 (.q 26 (.q 27 (.q 28 (.q 29 (.q 30 (.e 31 .done)))))))))))))))))))))))))))))))) [31] (New w6) (by kernel_rfl) (by kernel_rfl) (by kernel_rfl) (by kernel_rfl) (by kernel_rfl) nd ?_
      refine Exists.intro y.cls (And.intro (fun w'' hw => cellB (hw.blk hE6) rfl) ?_)
      refine if_p (fun h0 => ?_) (fun h0 => ?_)
      · replace h0 : y.cls = 0 := h0
        exact fin true ⟨fun _ => .inl h0, fun _ => rfl⟩ _ fun w' k' => hK4 true _ _ ⟨rfl, rfl, rfl, rfl, trivial⟩ ⟨k', ⟨fun _ => .inl h0, fun _ => rfl⟩⟩
      · replace h0 : ¬ y.cls = 0 := h0
        refine Exists.intro y.cls (And.intro (fun w'' hw => cellB (hw.blk hE6) rfl) ?_)
        refine if_p (fun h1 => ?_) (fun h1 => ?_)
        · replace h1 : 0 < y.cls := h1
          refine Exists.intro y.cls (And.intro (fun w'' hw => cellB (hw.blk hE6) rfl) ?_)
          refine Exists.intro p.A (Exists.intro p.l.length (Exists.intro p.c (And.intro (fun w'' hw => cellB (hw.blk k6.ri.blk) rfl) ?_)))
          refine if_p (fun h2 => ?_) (fun h2 => ?_)
          · replace h2 : y.cls < (p.l.length : Int) := h2
            have hi' : y.cls.toNat < p.l.length := by omega
            obtain ⟨a2, ea2, hok2, hc2⟩ := k6.ri.cx.pl.at_ hi'
            have e1 : at_ p.l ((y.cls.toNat : Nat) : Int) = at_ p.l y.cls := by rw [Int.toNat_of_nonneg (by omega)]
            rw [e1] at hc2
            refine Exists.intro p.A (Exists.intro p.l.length (Exists.intro p.c (And.intro (fun w'' hw => cellB (hw.blk k6.ri.blk) rfl) ?_)))
            refine Exists.intro y.cls (And.intro (fun w'' hw => cellB (hw.blk hE6) rfl) ?_)
            refine And.intro (by omega) (And.intro h2 ?_)
            refine some_at ea2 ?_
            refine Exists.intro (at_ p.l y.cls).tag (And.intro (fun w'' hw => hw.cell (by have := hc2 0 _ rfl; rw [add_zero_] at this ⊢; exact this)) ?_)
            have hb : decide ((at_ p.l y.cls).tag = 7) = true ↔ y.cls = 0 ∨ 0 < y.cls ∧ y.cls < (p.l.length : Int) ∧ (at_ p.l y.cls).tag = 7 := by
              rw [decide_eq_true_eq]
              exact ⟨fun e => .inr ⟨h1, h2, e⟩, fun e => (e.resolve_left h0).2.2⟩
            exact fin _ hb _ fun w' k' => hK4 _ _ _ ⟨rfl, rfl, rfl, rfl, trivial⟩ ⟨k', hb⟩
          · replace h2 : ¬ y.cls < (p.l.length : Int) := h2
            have hb : false = true ↔ y.cls = 0 ∨ 0 < y.cls ∧ y.cls < (p.l.length : Int) ∧ (at_ p.l y.cls).tag = 7 := ⟨fun e => (by cases e), fun e => absurd (e.resolve_left h0).2.1 h2⟩
            exact fin false hb _ fun w' k' => hK4 false _ _ ⟨rfl, rfl, rfl, rfl, trivial⟩ ⟨k', hb⟩
        · replace h1 : ¬ 0 < y.cls := h1
          have hb : false = true ↔ y.cls = 0 ∨ 0 < y.cls ∧ y.cls < (p.l.length : Int) ∧ (at_ p.l y.cls).tag = 7 := ⟨fun e => (by cases e), fun e => absurd (e.resolve_left h0).1 h1⟩
          exact fin false hb _ fun w' k' => hK4 false _ _ ⟨rfl, rfl, rfl, rfl, trivial⟩ ⟨k', hb⟩
    rintro bh w7 fr7 ⟨k7, hbh⟩
    have hE7 := k7.blk hE6 hEn
    refine Exists.intro y.from_ (And.intro (cellB hE7 rfl) ?_)
    refine Exists.intro y.to (And.intro (cellB hE7 rfl) ?_)
    refine Exists.intro y.at_ (And.intro (cellB hE7 rfl) ?_)
    refine Exists.intro y.cls (And.intro (cellB hE7 rfl) ?_)
    have h8 : cHnd y = 8 := rfl
    obtain ⟨i1, i2, i3, i4⟩ := hin
    refine call_ (ruL_ok base p h vl _ 2 [y.from_, y.to, y.at_, y.cls] 4 w7 k7.ri rfl (fun q hq => ?_) (by simp; omega)) ?_
    · simp only [List.mem_cons, List.not_mem_nil, or_false] at hq
      rcases hq with rfl | rfl | rfl | rfl
      · exact i1
      · exact i2
      · exact i3
      · exact i4
    rintro e w8 ⟨rfl, v8, k8⟩
    refine ⟨_, rfl, ?_⟩
    exact hK3 (v8, _) _ _ ⟨rfl, rfl, rfl, trivial⟩ ⟨(k6.then k7).then k8, Wri.by Wri.four rfl hbh⟩
  rintro ⟨v6, t6⟩ w6 fr6 ⟨k6, q6⟩
  dsimp only at k6 q6
  have p6 := q6.1
  have hM6 := k6.blk hM0 hMn
  have fin : ∀ {v' : Value} {t' : WT} {w' : World}, Kr w0 base p h v w' v' t' → Wri (optT p.l) (10 + csum cMp x.maps) t6 x.maps t' → ∃ v' t', Kr w base p h v w' v' t' ∧ Wri (codT p.l) (cCod x) t x t' := fun kk q => by
    refine ⟨_, _, k00.then kk, ?_⟩
    have hP : (t.2 || !b) = ((t.2 || !b) || !decide (x.stack ≤ 64 ∧ x.locals ≤ 64 ∧ 0 < x.bytes.length ∧ x.bytes.length ≤ 4096)) := by
      cases hbb : b with
      | false => simp
      | true =>
        have := hb.1 hbb
        rw [decide_eq_true (by omega)]
        simp
    have h1 := Wri.by (T := seqT n2 (seqT n2 (seqT blobT (seqT (hndsT p.l) (optT p.l))))) (t := (t.1, t.2 || !b)) (b := t.2 || !b) (p := decide (x.stack ≤ 64 ∧ x.locals ≤ 64 ∧ 0 < x.bytes.length ∧ x.bytes.length ≤ 4096)) (P := fun c : Cod => c.stack ≤ 64 ∧ c.locals ≤ 64 ∧ 0 < c.bytes.length ∧ c.bytes.length ≤ 4096) (f := fun c : Cod => (c.stack, c.locals, c.bytes, c.hands, c.maps)) (hf := fun x y _ _ e => by
      cases x; cases y; cases e; rfl) (Wri.assoc (q2.seq (q4.seq (q6.seq q)))) hP (decide_eq_true_iff)
    exact Wri.pre (b := b) (Wri.le h1 (by rw [hcost]; omega)) (hC b hb)
  refine seq_cut (σ := Unit) (fun _ => [(0, .pointer (some ⟨h, 0, none⟩)), (3, .pointer (some ⟨M, 0, none⟩))]) (fun _ w' => w' = w6 ∧ x.maps ≠ []) ?_ ?_
  rotate_left
  · intro K hK
    refine Exists.intro Am (Exists.intro x.maps.length (Exists.intro cm (And.intro (cellB hM6 rfl) ?_)))
    refine if_p (fun h0 => ?_) (fun h0 => ?_)
    · replace h0 : (x.maps.length : Int) = 0 := h0
      have hnil : x.maps = [] := List.length_eq_zero_iff.1 (by omega)
      refine call_ (ruL_ok base p h v6 t6 2 [0] 1 w6 k6.ri rfl (by simp) (by simp; omega)) ?_
      rintro e w8 ⟨rfl, v8, k8⟩
      refine ⟨_, rfl, ?_⟩
      refine ⟨rfl, fin (k6.then k8) ?_⟩
      have q := (Wri.n2 (t := t6) (n := 0))
      refine ⟨by have := q.1; omega, q.2.imp (fun e => ⟨e.1, e.2.imp id fun e' => absurd (n2_ok (by decide) (by decide)) e'⟩) fun e => ⟨e.1, e.2.1, .inl hnil, ?_⟩⟩
      rw [e.2.2.2, hnil]
      rfl
    · replace h0 : ¬ (x.maps.length : Int) = 0 := h0
      exact hK () _ _ ⟨rfl, rfl, trivial⟩ ⟨rfl, fun e => h0 (by rw [e]; rfl)⟩
  rintro _ wz frz ⟨hwz, hne⟩
  obtain rfl := hwz.symm
  refine seq_cut (σ := Value × WT) (fun _ => [(0, .pointer (some ⟨h, 0, none⟩)), (3, .pointer (some ⟨M, 0, none⟩))]) (fun s w' => Kr w0 base p h v w' s.1 s.2 ∧ Wri n2 2 t6 1 s.2) ?_ ?_
  rotate_left
  · intro K hK
    refine call_ (ruL_ok base p h v6 t6 2 [1] 1 w6 k6.ri rfl (by simp) (by simp; omega)) ?_
    rintro e w7 ⟨rfl, v7, k7⟩
    refine ⟨_, rfl, ?_⟩
    exact hK (v7, _) _ _ ⟨rfl, rfl, trivial⟩ ⟨k6.then k7, Wri.n2⟩
  rintro ⟨v7, t7⟩ w7 fr7 ⟨k7, q7⟩
  dsimp only at k7 q7
  have p7 := q7.1
  refine seq_cut (σ := Value × WT) (fun _ => [(0, .pointer (some ⟨h, 0, none⟩)), (3, .pointer (some ⟨M, 0, none⟩))]) (fun s w' => Kr w0 base p h v w' s.1 s.2 ∧ Wri (utfT p.l) 2 t7 tableS s.2) ?_ ?_
  rotate_left
  · intro K hK
    refine call_ (rwutf_ok base p h v7 t7 tableS w7 k7.ri hO (by omega)) ?_
    rintro e w8 ⟨rfl, v8, t8, k8, wr8⟩
    refine ⟨_, rfl, ?_⟩
    exact hK (v8, t8) _ _ ⟨rfl, rfl, trivial⟩ ⟨k7.then k8, wr8⟩
  rintro ⟨v8, t8⟩ w8 fr8 ⟨k8, q8⟩
  dsimp only at k8 q8
  have p8 := q8.1
  have hM8 := k8.blk hM0 hMn
  -- its maps
  obtain ⟨z, hz⟩ : ∃ z, z = w8.heap.size := ⟨_, rfl⟩
  refine seq_cut (σ := Unit) (fun _ => [(0, .pointer (some ⟨h, 0, none⟩)), (3, .pointer (some ⟨M, 0, none⟩)), (6, .pointer (some ⟨z, 0, none⟩))]) (fun _ w' => New w8 w' ∧ Nest w0 base p h v w' v8 t8 z (.slice none 0 0) ([], false)) ?_ ?_
  rotate_left
  · intro K hK
    refine Exists.intro p.A (Exists.intro p.l.length (Exists.intro p.c (And.intro (cellB k8.ri.blk rfl) ?_)))
    have nn := New.alloc w8 (.cells #[p.v, .slice none 0 0, .bool false] 100)
    have hbn := heap_alloc_new w8 (.cells #[p.v, .slice none 0 0, .bool false] 100)
    have nest := Nest.start k8 hbw0 nn rfl hbn
    rw [hz] at hK
    exact hK () _ _ ⟨rfl, rfl, rfl, trivial⟩ ⟨nn, nest⟩
  rintro _ w9 fr9 ⟨n9, nest9⟩
  have hM9 := n9.blk hM8
  obtain ⟨bm, hbm⟩ : ∃ bm, bm = !decide (x.maps.length ≤ 256) := ⟨_, rfl⟩
  refine seq_cut (σ := Value × WT) (fun _ => [(0, .pointer (some ⟨h, 0, none⟩)), (3, .pointer (some ⟨M, 0, none⟩)), (6, .pointer (some ⟨z, 0, none⟩))]) (fun s w' => Nest w0 base p h v w' v8 t8 z s.1 s.2 ∧ Wri n2 2 ([], false || !decide (x.maps.length ≤ 256)) (x.maps.length : Int) (s.2.1, bm || s.2.2)) ?_ ?_
  rotate_left
  · intro K hK
    refine Exists.intro Am (Exists.intro x.maps.length (Exists.intro cm (And.intro (cellB hM9 rfl) ?_)))
    refine call_ (ruL_ok base p z (.slice none 0 0) ([], false) 2 [(x.maps.length : Int)] 1 w9 nest9.inn rfl (by simp; omega) (by simp)) ?_
    rintro e wa ⟨rfl, va, ka⟩
    refine ⟨_, rfl, ?_⟩
    refine hK (va, _) _ _ ⟨rfl, rfl, rfl, trivial⟩ ⟨nest9.act ka, ?_⟩
    have q := (Wri.n2 (t := ([], false)) (n := (x.maps.length : Int))).mark bm
    rw [Bool.false_or, ← hbm]
    rw [Bool.or_false] at q
    exact q
  rintro ⟨va, ta⟩ wa fra ⟨nesta, wra⟩
  dsimp only at nesta wra
  refine seq_assign ?_
  refine seq_cut (σ := Value × WT) (fun _ => [(0, .pointer (some ⟨h, 0, none⟩)), (6, .pointer (some ⟨z, 0, none⟩))]) (fun s w' => Nest w0 base p h v w' v8 t8 z s.1 s.2 ∧ Wri (mapsT p.l) (2 + csum cMp x.maps) ([], false) x.maps (s.2.1, bm || s.2.2)) ?_ ?_
  rotate_left
  · intro K hK
    refine seq_assign ?_
    refine den_loop (σ := Nat × Int × Value × WT) (fun s => [(0, .pointer (some ⟨h, 0, none⟩)), (3, .pointer (some ⟨M, 0, none⟩)), (6, .pointer (some ⟨z, 0, none⟩)), (7, zi s.2.1), (8, zi (s.1 : Int))]) (fun m s wl => x.maps.length ≤ m + s.1 ∧ s.1 ≤ x.maps.length ∧ Nest w0 base p h v wl v8 t8 z s.2.2.1 s.2.2.2 ∧ WMs p.l ([], false) x.maps s.1 s.2.1 (s.2.2.2.1, bm || s.2.2.2.2) ∧ ((bm || s.2.2.2.2) = false → -1 ≤ s.2.1 ∧ s.2.1 ≤ 65535)) x.maps.length (0, -1, va, ta) ⟨rfl, rfl, rfl, rfl, rfl, trivial⟩ ⟨by dsimp only; omega, Nat.zero_le _, nesta, WMs.start wra, fun _ => ⟨(show (-1 : Int) ≤ -1 by decide), (show (-1 : Int) ≤ 65535 by decide)⟩⟩ ?_
    rintro m ⟨i, last, vl, tl⟩ wl frl ⟨hfuel, hil, nl, hw, hla⟩
    dsimp only at hfuel hil nl hw hla
    have hMl := nl.out.blk hM0 hMn
    refine seq_cut (σ := Unit) (fun _ => [(0, .pointer (some ⟨h, 0, none⟩)), (3, .pointer (some ⟨M, 0, none⟩)), (6, .pointer (some ⟨z, 0, none⟩)), (7, zi last), (8, zi (i : Int))]) (fun _ w' => w' = wl ∧ i < x.maps.length) ?_ ?_
    rotate_left
    · intro K2 hK2
      refine Exists.intro Am (Exists.intro x.maps.length (Exists.intro cm (And.intro (cellB hMl rfl) ?_)))
      refine if_p (fun hlt => ?_) (fun hge => ?_)
      · replace hlt : (i : Int) < (x.maps.length : Int) := hlt
        exact hK2 () _ _ ⟨rfl, rfl, rfl, rfl, rfl, trivial⟩ ⟨rfl, by omega⟩
      · replace hge : ¬ (i : Int) < (x.maps.length : Int) := hge
        have e : i = x.maps.length := by omega
        subst e
        exact hK (vl, tl) _ _ ⟨rfl, rfl, trivial⟩ ⟨nl, hw.done⟩
    rintro _ wy fry ⟨hwy, hi⟩
    obtain rfl := hwy.symm
    have hlt : (i : Int) < (x.maps.length : Int) := by omega
    obtain ⟨m, rfl⟩ : ∃ m', m = m' + 1 := ⟨m - 1, by omega⟩
    obtain ⟨_, _, he, _, gx⟩ := (nl.out.wide mpOk (by decide) hm1).get mpOk (by decide)
    cases he
    obtain ⟨a, cs, ea, hx, hc⟩ := gx i hi
    have hiy := hi4 _ (List.getElem_mem hi)
    have hcs : csum cMp (x.maps.take i) + cMp x.maps[i] ≤ csum cMp x.maps := by
      have h1 := csum_le cMp x.maps (i + 1)
      rw [List.take_succ_eq_append_getElem hi, csum_snoc] at h1
      exact h1
    have hw1 := hw.1
    simp only [List.length_nil] at hw1
    obtain ⟨y, hy⟩ : ∃ y, y = x.maps[i] := ⟨_, rfl⟩
    rw [← hy] at hx hiy hcs
    have hx0 := hx
    obtain ⟨_, _, rfl, hl1, hl2⟩ := hx
    obtain ⟨A1, c1, rfl, hy1, _⟩ := hl1.get tyOk (by decide)
    obtain ⟨A2, c2, rfl, hy2, _⟩ := hl2.get tyOk (by decide)
    have hcy : cMp y = 7 + 3 * y.locals.length + 3 * y.stack.length := rfl
    refine seq_cut (σ := Value × WT) (fun _ => [(0, .pointer (some ⟨h, 0, none⟩)), (3, .pointer (some ⟨M, 0, none⟩)), (6, .pointer (some ⟨z, 0, none⟩)), (7, zi y.at_), (8, zi (i : Int))]) (fun s w' => Nest w0 base p h v w' v8 t8 z s.1 s.2 ∧ Wri (mapT p.l last) (cMp y) (tl.1, bm || tl.2) y (s.2.1, bm || s.2.2) ∧ ((bm || s.2.2) = false → -1 ≤ y.at_ ∧ y.at_ ≤ 65535)) ?_ ?_
    · rintro ⟨vb, tb⟩ wb frb ⟨nb, qb, hlb⟩
      dsimp only at nb qb hlb
      have inc := incN hi hnm
      refine ⟨m, (i + 1, y.at_, vb, tb), by omega, ⟨rfl, rfl, rfl, rfl, inc, trivial⟩, by dsimp only; omega, by dsimp only; omega, nb, ?_, hlb⟩
      have := hw.step hi (by rw [← hy]; exact qb)
      rw [← hy] at this
      exact this
    intro K3 hK3
    refine block_ ?_
    obtain ⟨E, hE⟩ : ∃ E, E = wl.heap.size := ⟨_, rfl⟩
    refine seq_cut (σ := Unit) (fun _ => [(0, .pointer (some ⟨h, 0, none⟩)), (3, .pointer (some ⟨M, 0, none⟩)), (6, .pointer (some ⟨z, 0, none⟩)), (7, zi last), (8, zi (i : Int)), (9, .pointer (some ⟨E, 0, none⟩))]) (fun _ w' => Mb w0 base p h v v8 t8 z E y A1 c1 A2 c2 w' vl tl) ?_ ?_
    rotate_left
    · intro K4 hK4
      refine Exists.intro Am (Exists.intro x.maps.length (Exists.intro cm (And.intro (cellB hMl rfl) ?_)))
      refine And.intro (by omega) (And.intro hlt ?_)
      refine some_at ea ?_
      refine loadN_row (vs := (mpC y A1 c1 A2 c2).toList) (fun j u hu => by rw [Int.toNat_natCast]; exact hc j u hu) rfl ?_
      refine And.intro rfl ?_
      refine storeNew (vs := (mpC y A1 c1 A2 c2).toList) (arr := #[zi 0, .slice none 0 0, .slice none 0 0]) rfl (mpOk.one hx0) ?_
      intro wb hbb nb sb
      rw [hE] at hK4
      exact hK4 () _ _ ⟨rfl, rfl, rfl, rfl, rfl, rfl, trivial⟩ ⟨nl.new nb, hbb, nl.inn.hi (Nat.le_refl _), LRep.mod tyOk (by decide) hl1 (nb.mod.mono fun _ _ e => False.elim e), LRep.mod tyOk (by decide) hl2 (nb.mod.mono fun _ _ e => False.elim e)⟩
    rintro _ wb frb mb
    refine seq_cut (σ := Bool) (fun _ => [(0, .pointer (some ⟨h, 0, none⟩)), (3, .pointer (some ⟨M, 0, none⟩)), (6, .pointer (some ⟨z, 0, none⟩)), (7, zi last), (8, zi (i : Int)), (9, .pointer (some ⟨E, 0, none⟩))]) (fun b w' => Mb w0 base p h v v8 t8 z E y A1 c1 A2 c2 w' vl (tl.1, tl.2 || !b) ∧ (b = true ↔ last < y.at_ ∧ y.at_ ≤ 65535)) ?_ ?_
    rotate_left
    · intro K4 hK4
      refine Exists.intro y.at_ (And.intro (cellB mb.blk rfl) ?_)
      refine if_p (fun ha => ?_) (fun ha => ?_)
      · replace ha : last < y.at_ := ha
        refine Exists.intro y.at_ (And.intro (cellB mb.blk rfl) ?_)
        refine call_ (rmust_ok base p z vl tl (decide (y.at_ ≤ 65535)) wb mb.nest.inn) ?_
        rintro e wc ⟨rfl, kc⟩
        refine ⟨_, rfl, ?_⟩
        exact hK4 _ _ _ ⟨rfl, rfl, rfl, rfl, rfl, rfl, trivial⟩ ⟨mb.act kc, by rw [decide_eq_true_eq]; exact ⟨fun e => ⟨ha, e⟩, fun e => e.2⟩⟩
      · replace ha : ¬ last < y.at_ := ha
        refine call_ (rmust_ok base p z vl tl false wb mb.nest.inn) ?_
        rintro e wc ⟨rfl, kc⟩
        refine ⟨_, rfl, ?_⟩
        exact hK4 false _ _ ⟨rfl, rfl, rfl, rfl, rfl, rfl, trivial⟩ ⟨mb.act kc, ⟨fun e => (by cases e), fun e => absurd e.1 ha⟩⟩
    rintro bb wc frc ⟨mc, hbb⟩
    refine seq_cut (σ := Value × WT) (fun _ => [(0, .pointer (some ⟨h, 0, none⟩)), (3, .pointer (some ⟨M, 0, none⟩)), (6, .pointer (some ⟨z, 0, none⟩)), (7, zi last), (8, zi (i : Int)), (9, .pointer (some ⟨E, 0, none⟩))]) (fun s w' => Mb w0 base p h v v8 t8 z E y A1 c1 A2 c2 w' s.1 s.2 ∧ Wri n1 1 (tl.1, tl.2 || !bb) 255 s.2) ?_ ?_
    rotate_left
    · intro K4 hK4
      refine call_ (ruL_ok base p z vl _ 1 [255] 1 wc mc.nest.inn rfl (by simp) (by simp; omega)) ?_
      rintro e wd ⟨rfl, vd, kd⟩
      refine ⟨_, rfl, ?_⟩
      exact hK4 (vd, _) _ _ ⟨rfl, rfl, rfl, rfl, rfl, rfl, trivial⟩ ⟨mc.act kd, Wri.n1⟩
    rintro ⟨vd, td⟩ wd frd ⟨md, qd⟩
    dsimp only at md qd
    have pd := qd.1
    dsimp only at pd
    obtain ⟨zz, hzz⟩ : ∃ zz, zz = clamp (IntKind.i64.wrap (IntKind.i64.wrap (y.at_ - last) - 1)) := ⟨_, rfl⟩
    refine seq_cut (σ := Value × WT) (fun _ => [(0, .pointer (some ⟨h, 0, none⟩)), (3, .pointer (some ⟨M, 0, none⟩)), (6, .pointer (some ⟨z, 0, none⟩)), (7, zi last), (8, zi (i : Int)), (9, .pointer (some ⟨E, 0, none⟩))]) (fun s w' => Mb w0 base p h v v8 t8 z E y A1 c1 A2 c2 w' s.1 s.2 ∧ Wri n2 2 td zz s.2) ?_ ?_
    rotate_left
    · intro K4 hK4
      refine Exists.intro y.at_ (And.intro (cellB md.blk rfl) ?_)
      have hcall := ruL_ok base p z vd td 2 [zz] 1 wd md.nest.inn rfl (fun q hq => by rw [List.mem_singleton.1 hq, hzz]; exact clamp_bd _) (by simp; omega)
      rw [hzz] at hcall
      refine call_ hcall ?_
      rw [← hzz]
      rintro e we ⟨rfl, ve, ke⟩
      refine ⟨_, rfl, ?_⟩
      exact hK4 (ve, _) _ _ ⟨rfl, rfl, rfl, rfl, rfl, rfl, trivial⟩ ⟨md.act ke, Wri.n2⟩
    rintro ⟨ve, te⟩ we fre ⟨me, qe⟩
    dsimp only at me qe
    have pe := qe.1
    refine seq_cut (σ := Value × WT) (fun _ => [(0, .pointer (some ⟨h, 0, none⟩)), (3, .pointer (some ⟨M, 0, none⟩)), (6, .pointer (some ⟨z, 0, none⟩)), (7, zi last), (8, zi (i : Int)), (9, .pointer (some ⟨E, 0, none⟩))]) (fun s w' => Mb w0 base p h v v8 t8 z E y A1 c1 A2 c2 w' s.1 s.2 ∧ Wri (tT true p.l) (2 + 3 * y.locals.length) te y.locals s.2) ?_ ?_
    rotate_left
    · intro K4 hK4
      refine Exists.intro A1 (Exists.intro y.locals.length (Exists.intro c1 (And.intro (cellB me.blk rfl) ?_)))
      refine call_ (rtypes_ok base p z ve te _ y.locals true we me.nest.inn hO (LRep.weak tyOk me.l1 fun q _ e => .inr (me.nest.at_ q e)) (by omega)) ?_
      rintro e wf ⟨rfl, vf, tf, kf, qf⟩
      refine ⟨_, rfl, ?_⟩
      exact hK4 (vf, tf) _ _ ⟨rfl, rfl, rfl, rfl, rfl, rfl, trivial⟩ ⟨me.act kf, qf⟩
    rintro ⟨vf, tf⟩ wf frf ⟨mf, qf⟩
    dsimp only at mf qf
    have pf := qf.1
    refine seq_cut (σ := Value × WT) (fun _ => [(0, .pointer (some ⟨h, 0, none⟩)), (3, .pointer (some ⟨M, 0, none⟩)), (6, .pointer (some ⟨z, 0, none⟩)), (7, zi last), (8, zi (i : Int)), (9, .pointer (some ⟨E, 0, none⟩))]) (fun s w' => Mb w0 base p h v v8 t8 z E y A1 c1 A2 c2 w' s.1 s.2 ∧ Wri (tT false p.l) (2 + 3 * y.stack.length) tf y.stack s.2) ?_ ?_
    rotate_left
    · intro K4 hK4
      refine Exists.intro A2 (Exists.intro y.stack.length (Exists.intro c2 (And.intro (cellB mf.blk rfl) ?_)))
      refine call_ (rtypes_ok base p z vf tf _ y.stack false wf mf.nest.inn hO (LRep.weak tyOk mf.l2 fun q _ e => .inr (mf.nest.at_ q e)) (by omega)) ?_
      rintro e wg ⟨rfl, vg, tg, kg, qg⟩
      refine ⟨_, rfl, ?_⟩
      exact hK4 (vg, tg) _ _ ⟨rfl, rfl, rfl, rfl, rfl, rfl, trivial⟩ ⟨mf.act kg, qg⟩
    rintro ⟨vg, tg⟩ wg frg ⟨mg, qg⟩
    dsimp only at mg qg
    have hsum := mp_sum (bm := bm) (u := tl) hla hbb (fun hl hP => by
      have e1 : IntKind.i64.wrap (y.at_ - last) = y.at_ - last := wrap_i64 (by omega) (by omega)
      rw [hzz, e1, wrap_i64 (by omega) (by omega)]
      exact clamp_id (by omega) (by omega)) qd qe qf qg
    refine Exists.intro y.at_ (And.intro (cellB mg.blk rfl) ?_)
    exact hK3 (vg, tg) _ _ ⟨rfl, rfl, rfl, rfl, rfl, trivial⟩ ⟨mg.nest, hsum.1, hsum.2⟩
  rintro ⟨vb, tb⟩ wb frb ⟨nb, qb⟩
  dsimp only at nb qb
  have pb := qb.1
  simp only [List.length_nil] at pb
  refine seq_cut (σ := Unit) (fun _ => [(0, .pointer (some ⟨h, 0, none⟩)), (6, .pointer (some ⟨z, 0, none⟩))]) (fun _ w' => Nest w0 base p h v w' v8 (t8.1, t8.2 || tb.2) z vb tb) ?_ ?_
  rotate_left
  · intro K hK
    refine Exists.intro tb.2 (And.intro (cellB nb.inn.blk rfl) ?_)
    refine call_ (rmust_ok base p h v8 t8 (!tb.2) wb nb.out.ri) ?_
    rintro e wc ⟨rfl, kc⟩
    refine ⟨_, rfl, ?_⟩
    rw [Bool.not_not] at kc
    exact hK () _ _ ⟨rfl, rfl, trivial⟩ (nb.must kc)
  rintro _ wc frc nc
  refine seq_cut (σ := Value) (fun _ => [(0, .pointer (some ⟨h, 0, none⟩)), (6, .pointer (some ⟨z, 0, none⟩))]) (fun v' w' => Nest w0 base p h v w' v' (t8.1 ++ enc 4 (tb.1.length : Int), t8.2 || tb.2) z vb tb) ?_ ?_
  rotate_left
  · intro K hK
    obtain ⟨A2, c2, rfl, _⟩ := own_slice nc.inn.own
    refine Exists.intro A2 (Exists.intro tb.1.length (Exists.intro c2 (And.intro (cellB nc.inn.blk rfl) ?_)))
    refine call_ (ruL_ok base p h v8 (t8.1, t8.2 || tb.2) 4 [(tb.1.length : Int)] 1 wc nc.out.ri rfl (by simp; omega) (by simp; omega)) ?_
    rintro e wd ⟨rfl, vd, kd⟩
    refine ⟨_, rfl, ?_⟩
    rw [noteU4 (by omega)] at kd
    exact hK vd _ _ ⟨rfl, rfl, trivial⟩ (nc.must kd)
  rintro vd wd frd nd0
  obtain ⟨td, htd⟩ : ∃ td, td = (t8.1 ++ enc 4 (tb.1.length : Int), t8.2 || tb.2) := ⟨_, rfl⟩
  rw [← htd] at nd0
  have hld : td.1.length = t8.1.length + 4 := by rw [htd]; simp only [List.length_append, enc_length]
  obtain ⟨A4, c4, rfl, _⟩ := own_slice nd0.out.ri.own
  obtain ⟨A2, c2, rfl, _⟩ := own_slice nd0.inn.own
  refine draw_ (w := wd) ok (.q 0 (.q 1 (.q 2 (.q 3 (.q 4 (.q 5 (.q 6 (.q 7 (.q 8 (.e 9 (.q 10 (.q 11 (.e 12 .done))))))))))))) [12] (fun w'' : World => w''.heap[h]? = some (.cells #[p.v, .slice A4 td.1.length c4, .bool td.2] 100 (0, 0)) ∧ w''.heap[z]? = some (.cells #[p.v, .slice A2 tb.1.length c2, .bool tb.2] 100 (0, 0))) (by kernel_rfl) (by kernel_rfl) (by kernel_rfl) (by kernel_rfl) (by kernel_rfl) ⟨(New.drew wd).blk nd0.out.ri.blk, (New.drew wd).blk nd0.inn.blk⟩ ?_
  refine Exists.intro A4 (Exists.intro td.1.length (Exists.intro c4 (And.intro (fun w'' hw => cellB hw.1 rfl) ?_)))
  refine Exists.intro A2 (Exists.intro tb.1.length (Exists.intro c2 (And.intro (fun w'' hw => cellB hw.2 rfl) ?_)))
  have nw := New.drew wd
  have nnd := nd0.new nw
  obtain ⟨_, _, he, _, _, row2, _⟩ := own_slice nnd.inn.own
  cases he
  refine eff_app rfl rfl (fun _ _ => rfl) ?_
  refine append2_ ok rfl rfl rfl rfl nnd.out.ri.own rfl rfl row2 (by rw [bvs_length]; exact (Nat.mul_one _).symm) (bvs_one _) (by decide) rfl (by show (td.1.length + tb.1.length) * 1 ≤ _; omega) (by omega) nnd.out.ri.bw ?_
  intro A7 c7 we own7 mod7 st7
  have hb7 := mod7.blk nnd.out.ri.blk (fun e => nnd.out.ri.off e.symm)
  have hz7 := mod7.blk nnd.inn.blk (fun e => nnd.sep z (.inr rfl) (.inl e))
  refine Exists.intro (fun w'' : World => w''.heap[h]? = some (.cells #[p.v, .slice A4 td.1.length c4, .bool td.2] 100 (0, 0)) ∧ w''.heap[z]? = some (.cells #[p.v, .slice A2 tb.1.length c2, .bool tb.2] 100 (0, 0))) ?_
  refine And.intro (fun _ h => h) ?_
  refine And.intro ⟨hb7, hz7⟩ ?_
  refine And.intro ⟨_, cellB hb7 rfl⟩ (And.intro (fzB hb7 _) (force_ ?_))
  refine stK hb7 (show (1 : Nat) < 3 by decide) ?_
  intro wf hb8 m8 s8
  have kf := (nd0.add nw mod7 own7 st7 m8 hb8).1
  refine ⟨rfl, fin kf ?_⟩
  have qr := Wri.part (t := t8) qb
  have e8 : (t8.2 || (bm || tb.2)) = (t8.2 || tb.2) := by
    cases h8 : t8.2 with
    | true => rfl
    | false =>
      have hbt := bad4 (q6.keep (q7.keep (q8.keep h8)))
      have := (hb.1 hbt).2.2.2.2.2.2.2
      rw [hbm, decide_eq_true this]
      rfl
  dsimp only at qr
  rw [e8] at qr
  rw [htd]
  dsimp only
  rw [List.append_assoc]
  exact Wri.le (Wri.opt q7 q8 qr hne) (by omega)

end Go.Proofs.YtdcaafldnbcdkaaDoor.Class

/-! ### KBytes -/
namespace Go.Proofs.YtdcaafldnbcdkaaDoor.Class
open Go Go.Proofs.YtdcaafldnbcdkaaDoor Go.Proofs.YtdcaafldnbcdkaaDoor.Eng Go.Proofs Go.Proofs.YtdcaafldnbcdkaaDoor.Word Go.Proofs.YtdcaafldnbcdkaaDoor.Fmt
open Go.Proofs.YtdcaafldnbcdkaaDoor.Pool (Ent at_ poolF strV entC entV EntOk Pl OkPool both own_low tagAt entF ents okB Okp)
set_option maxRecDepth 10000

/-- The bytes so far, in a row of one's own. -/
structure Gb (w : World) (w' : World) (A : Option Addr) (c : Nat) (bs : List UInt8) : Prop where
  new : New w w'
  own : w'.ownsRow w.heap.size 5 1 (.slice A bs.length c) bs.length (bvs bs)
theorem Gb.put {w w1 w2 : World} {A A' : Option Addr} {c c' : Nat} {bs bs' : List UInt8} (g : Gb w w1 A c bs) (n : New w1 w2) (o : w2.ownsRow w1.heap.size 5 1 (.slice A' bs'.length c') bs'.length (bvs bs')) : Gb w w2 A' c' bs' := by
  refine ⟨g.new.trans n, o.1, ?_⟩
  rcases o.2 with h' | ⟨b, cap, cur, h1, h2, h3⟩
  · exact .inl h'
  · exact .inr ⟨b, cap, cur, h1, Nat.le_trans g.new.size h2, h3⟩
theorem RPut1 {w w1 : World} {A : Option Addr} {c : Nat} {bs : List UInt8} (g : Gb w w1 A c bs) (k : Nat) (sign : Bool) (zs : List Int) (n : Nat) (hn : n = zs.length) (hg : good (k : Int) sign zs = true) (hb : ∀ z ∈ zs, -9223372036854775808 ≤ z ∧ z ≤ 9223372036854775807) (hm : bs.length + 8 * zs.length ≤ 140737488355328) :
    Calls Tryd.prog 83 #[.slice A bs.length c, .int .i64 (k : Int), .bool sign, .slice (some ⟨w1.heap.size, 0, none⟩) n n] (w1.alloc (.cells (ivs zs).toArray 3)) fun e w' => ∃ A' c', e = .returned (.tuple #[.slice A' (bs ++ zs.flatMap (enc k)).length c', .int .i64 0]) ∧ Gb w w' A' c' (bs ++ zs.flatMap (enc k)) ∧ New w1 w' := by
  have n1 := New.alloc w1 (.cells (ivs zs).toArray 3)
  obtain ⟨_, _, he, h1, h2, row, _⟩ := own_slice g.own
  cases he
  have e1 : allBs bs (k : Int) sign zs = bs ++ zs.flatMap (enc k) := by
    unfold allBs
    rw [hg, if_pos rfl, Int.toNat_natCast]
  have e2 : allErr (k : Int) sign zs = 0 := by
    unfold allErr
    rw [hg, if_pos rfl]
  have h := PutO_ok A c bs (k : Int) sign (some ⟨w1.heap.size, 0, none⟩) n n zs _ (row.new n1) h1 h2 (row_alloc w1 (ivs zs) _ _) hn hb hm
  rw [e1, e2] at h
  refine h.mono ?_
  rintro e w' ⟨A', c', rfl, nn, o, _⟩
  exact ⟨A', c', rfl, (Gb.mk (g.new.trans n1) (own_new n1 g.own)).put nn (o hg), n1.trans nn⟩
/-- Bytes behind. -/
theorem Gb.app {w w1 w2 : World} {A A' : Option Addr} {c c' n : Nat} {bs ys : List UInt8} (g : Gb w w1 A c bs) (n1 : New w1 w2) {w3 : World} (hn : n = bs.length + ys.length) (o : w3.ownsRow w.heap.size 5 1 (.slice A' n c') n (bvs bs ++ bvs ys)) (m : Mod (fun k => some k = (Value.slice A bs.length c).ownBlock) w2 w3) : Gb w w3 A' c' (bs ++ ys) := by
  refine ⟨Mod.trans (g.new.trans n1) m fun b hb e => ?_, ?_⟩
  · have := (g.own.lt b e.symm).1
    omega
  · rw [List.length_append, ← hn, bvs_append]
    exact o
theorem enc1 (n : Int) : bvs (enc 1 n) = [.int .u8 (IntKind.u8.wrap n)] := by
  rw [enc_succ]
  have e : enc 0 (n / 256) = [] := List.eq_nil_of_length_eq_zero (enc_length 0 _)
  rw [e, wrap_u8]
  show [Value.int .u8 ((UInt8.ofNat (n % 256).toNat).toNat : Int)] = _
  rw [UInt8.toNat_ofNat']
  congr 2
  omega
theorem fits2_hi {n : Int} (h : Word.fits (2 : Nat) n false = true) : 0 ≤ n ∧ n < 65536 := by
  have h1 := fits_i64 (k := 2) (.inr (.inl rfl)) h
  simp [Word.fits] at h
  omega
theorem RBytes_ok (A : Option Addr) (c : Nat) (l : List Ent) (w : World) (hl : Pl w A l.length l) (ho : okB l = true) :
    Calls Tryd.prog 51 #[.slice A l.length c] w fun e w' => ∃ A' c', e = .returned (.slice A' (poolF.enc l).length c') ∧ Gb w w' A' c' (poolF.enc l) := by
  have hO := (Pool.okB_iff l).1 ho
  have h1024 := hO.2
  have hpos := hO.1.pos
  refine enter ok Tryd.func51 rfl rfl rfl ?_
  refine seq_assign ?_
  refine seq_cut (σ := Option Addr × Nat × List UInt8) (fun s => [(0, .slice A l.length c), (3, .slice s.1 s.2.2.length s.2.1)]) (fun s w' => Gb w w' s.1 s.2.1 s.2.2 ∧ s.2.2 = enc 2 (l.length : Int)) ?_ ?_
  rotate_left
  · intro K hK
    have g0 : Gb w w none 0 [] := ⟨New.refl w, ⟨rfl, .inl ⟨rfl, rfl⟩⟩⟩
    refine call_ (RPut1 g0 2 false [(l.length : Int)] 1 rfl (good_one Pool.w2 (Pool.fits2 (by omega) (by omega)).1) (fun q hq => by rw [List.mem_singleton.1 hq]; omega) (by simp)) ?_
    rintro e w1 ⟨A1, c1, rfl, g1, _⟩
    refine ⟨_, rfl, ?_⟩
    exact hK (A1, c1, _) _ _ ⟨rfl, rfl, trivial⟩ ⟨g1, by simp⟩
  rintro ⟨A1, c1, b1⟩ w1 fr1 ⟨g1, hb1⟩
  dsimp only at g1 hb1
  refine seq_cut (σ := Option Addr × Nat × List UInt8) (fun s => [(3, .slice s.1 s.2.2.length s.2.1)]) (fun s w' => Gb w w' s.1 s.2.1 s.2.2 ∧ s.2.2 = poolF.enc l) ?_ ?_
  · rintro ⟨A2, c2, b2⟩ w2 fr2 ⟨g2, hb2⟩
    dsimp only at g2 hb2
    subst hb2
    exact ⟨A2, c2, rfl, g2⟩
  intro K hK
  refine seq_assign ?_
  have hh := hO.1.head
  have e1 : ents (l.take 1) = [] := by
    have e := Pool.ents_take (l := l) (i := 0) (by omega)
    have hh0 : (at_ l ((0 : Nat) : Int)).tag = 0 := by
      have : at_ l ((0 : Nat) : Int) = Pool.e0 := hh
      rw [this]
      rfl
    rw [if_pos hh0] at e
    rw [e]
    rfl
  refine den_loop (σ := Nat × Option Addr × Nat × List UInt8) (fun s => [(0, .slice A l.length c), (3, .slice s.2.1 s.2.2.2.length s.2.2.1), (5, zi (s.1 : Int))])
    (fun m s wl => l.length ≤ m + s.1 ∧ s.1 ≤ l.length ∧ Gb w wl s.2.1 s.2.2.1 s.2.2.2 ∧ s.2.2.2 = enc 2 (l.length : Int) ++ ents (l.take s.1)) l.length (1, A1, c1, b1) ⟨rfl, rfl, rfl, trivial⟩ ⟨by dsimp only; omega, hpos, g1, by dsimp only; rw [hb1, e1, List.append_nil]⟩ ?_
  rintro m ⟨i, A3, c3, b3⟩ wl frl ⟨hfuel, hil, gl, hbl⟩
  dsimp only at hfuel hil gl hbl
  refine seq_cut (σ := Unit) (fun _ => [(0, .slice A l.length c), (3, .slice A3 b3.length c3), (5, zi (i : Int))]) (fun _ w' => w' = wl ∧ i < l.length) ?_ ?_
  rotate_left
  · intro K2 hK2
    refine if_p (fun hlt => ?_) (fun hge => ?_)
    · replace hlt : (i : Int) < (l.length : Int) := hlt
      exact hK2 () _ _ ⟨rfl, rfl, rfl, trivial⟩ ⟨rfl, by omega⟩
    · replace hge : ¬ (i : Int) < (l.length : Int) := hge
      have e : i = l.length := by omega
      rw [e, List.take_length] at hbl
      exact hK (A3, c3, b3) _ _ ⟨rfl, trivial⟩ ⟨gl, by rw [hbl, ← Pool.ents_all hO.1]; rfl⟩
  rintro _ wy fry ⟨hwy, hi⟩
  obtain rfl := hwy.symm
  have hlt : (i : Int) < (l.length : Int) := by omega
  obtain ⟨m, rfl⟩ : ∃ m', m = m' + 1 := ⟨m - 1, by omega⟩
  have hln := Pool.ents_take_len hO hl.oks i (by omega)
  have hb3 : b3.length ≤ 100000000 := by
    rw [hbl, List.length_append, enc_length]
    omega
  refine seq_cut (σ := Option Addr × Nat × List UInt8) (fun s => [(0, .slice A l.length c), (3, .slice s.1 s.2.2.length s.2.1), (5, zi (i : Int))]) (fun s w' => Gb w w' s.1 s.2.1 s.2.2 ∧ s.2.2 = b3 ++ if (at_ l i).tag = 0 then [] else entF.enc (at_ l i)) ?_ ?_
  · rintro ⟨A4, c4, b4⟩ w4 fr4 ⟨g4, hb4⟩
    dsimp only at g4 hb4
    have hinc : Value.int .i64 (IntKind.i64.wrap ((i : Int) + 1)) = .int .i64 ((i + 1 : Nat) : Int) := by
      rw [wrap_i64 (by omega) (by omega)]
      rfl
    exact ⟨m, (i + 1, A4, c4, b4), by omega, ⟨rfl, rfl, hinc, trivial⟩, by dsimp only; omega, by dsimp only; omega, g4, by dsimp only; rw [hb4, hbl, Pool.ents_take hi, List.append_assoc]⟩
  intro K3 hK3
  refine block_ ?_
  have hplx := hl.mod gl.new fun _ _ _ h => h.elim
  obtain ⟨a, ea, hxo, hxc⟩ := hplx.at_ (i := i) (by omega)
  obtain ⟨X, hX⟩ : ∃ X, X = wl.heap.size := ⟨_, rfl⟩
  refine seq_cut (σ := Unit) (fun _ => [(0, .slice A l.length c), (3, .slice A3 b3.length c3), (5, zi (i : Int)), (6, .pointer (some ⟨X, 0, none⟩))]) (fun _ w' => New wl w' ∧ w'.heap[X]? = some (.cells (entC (at_ l i)).toArray 42 (0, 0))) ?_ ?_
  rotate_left
  · intro K4 hK4
    refine And.intro (by omega) (And.intro hlt ?_)
    refine some_at ea ?_
    refine loadN_row (vs := entC (at_ l i)) (fun j u hu => by rw [Int.toNat_natCast]; exact hxc j u hu) rfl ?_
    refine And.intro rfl ?_
    refine storeNew (vs := entC (at_ l i)) (arr := Pool.entZ) rfl (Pool.entC_one _) ?_
    intro w5 hb5 n5 s5
    rw [hX] at hK4
    exact hK4 () _ _ ⟨rfl, rfl, rfl, rfl, trivial⟩ ⟨n5, hb5⟩
  rintro _ w5 fr5 ⟨n5, hX5⟩
  refine seq_cut (σ := Unit) (fun _ => [(0, .slice A l.length c), (3, .slice A3 b3.length c3), (5, zi (i : Int)), (6, .pointer (some ⟨X, 0, none⟩))]) (fun _ w' => w' = w5 ∧ ¬ (at_ l i).tag = 0) ?_ ?_
  rotate_left
  · intro K4 hK4
    refine Exists.intro (at_ l i).tag (And.intro (cellB hX5 rfl) ?_)
    refine if_p (fun h0 => ?_) (fun h0 => ?_)
    · replace h0 : (at_ l i).tag = 0 := h0
      exact hK3 (A3, c3, b3) _ _ ⟨rfl, rfl, rfl, trivial⟩ ⟨⟨gl.new.trans n5, own_new n5 gl.own⟩, by rw [if_pos h0, List.append_nil]⟩
    · exact hK4 () _ _ ⟨rfl, rfl, rfl, rfl, trivial⟩ ⟨rfl, h0⟩
  rintro _ wz frz ⟨hwz, h0⟩
  obtain rfl := hwz.symm
  rw [if_neg h0] at hK3
  have hok := Pool.right_ent hO hl.oks hi h0
  obtain ⟨hf1, hparts⟩ := Pool.ent_parts hok
  have g5 : Gb w w5 A3 c3 b3 := ⟨gl.new.trans n5, own_new n5 gl.own⟩
  -- its tag
  have hb3i : (b3 ++ enc 1 (at_ l i).tag).length = b3.length + 1 := by rw [List.length_append, enc_length]
  refine seq_cut (σ := Option Addr × Nat) (fun s => [(0, .slice A l.length c), (3, .slice s.1 (b3 ++ enc 1 (at_ l i).tag).length s.2), (5, zi (i : Int)), (6, .pointer (some ⟨X, 0, none⟩))]) (fun s w' => Gb w w' s.1 s.2 (b3 ++ enc 1 (at_ l i).tag) ∧ w'.heap[X]? = some (.cells (entC (at_ l i)).toArray 42 (0, 0))) ?_ ?_
  rotate_left
  · intro K4 hK4
    refine Exists.intro (at_ l i).tag (And.intro (cellB hX5 rfl) ?_)
    have n6 := New.alloc w5 (.cells #[.int .u8 (IntKind.u8.wrap (at_ l i).tag)] 5)
    have row6 : Row (w5.alloc (.cells #[.int .u8 (IntKind.u8.wrap (at_ l i).tag)] 5)) (some ⟨w5.heap.size, 0, none⟩) (bvs (enc 1 (at_ l i).tag)) := by
      rw [enc1]
      exact row_alloc w5 [.int .u8 (IntKind.u8.wrap (at_ l i).tag)] _ _
    refine append2_ ok rfl rfl rfl rfl (own_new n6 g5.own) rfl rfl row6 (by rw [bvs_length, enc_length]; rfl) (bvs_one _) (by decide) rfl (by show (b3.length + 1) * 1 ≤ _; omega) (by omega) (Nat.le_trans g5.new.size n6.size) ?_
    intro A7 c7 w7 own7 mod7 st7
    have hXo : ¬ some X = (Value.slice A3 b3.length c3).ownBlock := fun e => by
      have h1 := (gl.own.lt X e.symm).2
      omega
    have g7 := g5.app n6 (by rw [enc_length]) own7 mod7
    have e7 : Value.slice A7 (b3.length + 1) c7 = .slice A7 (b3 ++ enc 1 (at_ l i).tag).length c7 := by rw [hb3i]
    exact hK4 (A7, c7) _ _ ⟨rfl, e7, rfl, rfl, trivial⟩ ⟨g7, mod7.blk (n6.blk hX5) hXo⟩
  rintro ⟨A7, c7⟩ w7 fr7 ⟨g7, hX7⟩
  dsimp only at g7
  refine seq_cut (σ := Int) (fun k => [(0, .slice A l.length c), (3, .slice A7 (b3 ++ enc 1 (at_ l i).tag).length c7), (5, zi (i : Int)), (6, .pointer (some ⟨X, 0, none⟩)), (34, zi k)]) (fun k w' => w' = w7 ∧ (at_ l i).tag = k) ?_ ?_
  rotate_left
  · intro K4 hK4
    refine Exists.intro (at_ l i).tag (And.intro (cellB hX7 rfl) ?_)
    exact hK4 _ _ _ ⟨rfl, rfl, rfl, rfl, rfl, trivial⟩ ⟨rfl, rfl⟩
  rintro kd ww frw ⟨hww, hkd⟩
  obtain rfl := hww.symm
  have hen := hxo.n
  refine block_ ?_
  refine if_p (fun h1 => ?_) (fun h1 => ?_)
  · replace h1 : kd = 1 := h1
    cases hparts with
    | utf _ hf he =>
      have htl := Pool.fits2_lt hf
      have hsz : ((ByteArray.mk (at_ l i).text.toArray).size : Int) = (((at_ l i).text.length : Nat) : Int) := by rw [Pool.size_str]
      refine seq_cut (σ := Option Addr × Nat × List UInt8) (fun s => [(0, .slice A l.length c), (3, .slice s.1 s.2.2.length s.2.1), (5, zi (i : Int)), (6, .pointer (some ⟨X, 0, none⟩))]) (fun s w' => Gb w w' s.1 s.2.1 s.2.2 ∧ s.2.2 = b3 ++ enc 1 (at_ l i).tag ++ enc 2 ((at_ l i).text.length : Int) ∧ w'.heap[X]? = some (.cells (entC (at_ l i)).toArray 42 (0, 0))) ?_ ?_
      rotate_left
      · intro K5 hK5
        refine Exists.intro (⟨(at_ l i).text.toArray⟩ : ByteArray) (And.intro (cellB hX7 rfl) ?_)
        have hp := RPut1 g7 2 false [((ByteArray.mk (at_ l i).text.toArray).size : Int)] 1 rfl (good_one Pool.w2 (by rw [hsz]; exact hf)) (fun q hq => by rw [List.mem_singleton.1 hq, hsz]; omega) (by simp only [List.length_cons, List.length_nil, List.length_append, enc_length]; omega)
        refine call_ hp ?_
        rintro e w8 ⟨A8, c8, rfl, g8, n8⟩
        have hX8 := n8.blk hX7
        refine ⟨_, rfl, ?_⟩
        exact hK5 (A8, c8, _) _ _ ⟨rfl, rfl, rfl, rfl, trivial⟩ ⟨g8, by rw [hsz]; simp, hX8⟩
      rintro ⟨A8, c8, b8⟩ w8 fr8 ⟨g8, hb8, hX8⟩
      dsimp only at g8 hb8
      have hl8 : b8.length = b3.length + 3 := by rw [hb8]; simp only [List.length_append, enc_length]
      refine Exists.intro (⟨(at_ l i).text.toArray⟩ : ByteArray) (And.intro (cellB hX8 rfl) ?_)
      refine append_str_ ok rfl rfl rfl rfl rfl rfl rfl rfl rfl g8.own rfl rfl (by omega) g8.new.size ?_
      intro A9 c9 w9 own9 mod9
      have g9 := g8.app (New.refl w8) rfl own9 mod9
      have e9 : Value.slice A9 (b8.length + (at_ l i).text.length) c9 = .slice A9 (b8 ++ (at_ l i).text).length c9 := by rw [List.length_append]
      exact hK3 (A9, c9, _) _ _ ⟨rfl, e9, rfl, trivial⟩ ⟨g9, by rw [he, hb8]; simp⟩
    | int t => omega
    | long t => omega
    | cls t => omega
    | two t => exact absurd (hkd.trans h1) t.1
  replace h1 : ¬ kd = 1 := h1
  refine if_p (fun h3 => ?_) (fun h3 => ?_)
  · replace h3 : kd = 3 := h3
    cases hparts with
    | int _ hf he =>
      refine Exists.intro (at_ l i).n (And.intro (cellB hX7 rfl) ?_)
      refine call_ (RPut1 g7 4 true [(at_ l i).n] 1 rfl (good_one Pool.w4 hf) (fun q hq => by rw [List.mem_singleton.1 hq]; exact hen) (by simp only [List.length_cons, List.length_nil, List.length_append, enc_length]; omega)) ?_
      rintro e w8 ⟨A8, c8, rfl, g8, _⟩
      refine ⟨_, rfl, ?_⟩
      exact hK3 (A8, c8, _) _ _ ⟨rfl, rfl, rfl, trivial⟩ ⟨g8, by rw [he]; simp⟩
    | utf t => omega
    | long t => omega
    | cls t => omega
    | two t => exact absurd (hkd.trans h3) t.2.1
  replace h3 : ¬ kd = 3 := h3
  refine if_p (fun h5 => ?_) (fun h5 => ?_)
  · replace h5 : kd = 5 := h5
    cases hparts with
    | long _ hf he =>
      refine Exists.intro (at_ l i).n (And.intro (cellB hX7 rfl) ?_)
      refine call_ (RPut1 g7 8 true [(at_ l i).n] 1 rfl (good_one Pool.w8 hf) (fun q hq => by rw [List.mem_singleton.1 hq]; exact hen) (by simp only [List.length_cons, List.length_nil, List.length_append, enc_length]; omega)) ?_
      rintro e w8 ⟨A8, c8, rfl, g8, _⟩
      refine ⟨_, rfl, ?_⟩
      exact hK3 (A8, c8, _) _ _ ⟨rfl, rfl, rfl, trivial⟩ ⟨g8, by rw [he]; simp⟩
    | utf t => omega
    | int t => omega
    | cls t => omega
    | two t => exact absurd (hkd.trans h5) t.2.2.1
  replace h5 : ¬ kd = 5 := h5
  refine if_p (fun h7 => ?_) (fun h7 => ?_)
  · replace h7 : kd = 7 := h7
    cases hparts with
    | cls _ hf he =>
      refine Exists.intro (at_ l i).a (And.intro (cellB hX7 rfl) ?_)
      refine call_ (RPut1 g7 2 false [(at_ l i).a] 1 rfl (good_one Pool.w2 hf) (fun q hq => by rw [List.mem_singleton.1 hq]; exact fits_i64 (k := 2) (.inr (.inl rfl)) hf) (by simp only [List.length_cons, List.length_nil, List.length_append, enc_length]; omega)) ?_
      rintro e w8 ⟨A8, c8, rfl, g8, _⟩
      refine ⟨_, rfl, ?_⟩
      exact hK3 (A8, c8, _) _ _ ⟨rfl, rfl, rfl, trivial⟩ ⟨g8, by rw [he]; simp⟩
    | utf t => omega
    | int t => omega
    | long t => omega
    | two t => exact absurd (hkd.trans h7) t.2.2.2
  replace h7 : ¬ kd = 7 := h7
  cases hparts with
  | two _ hf hk he =>
    refine Exists.intro (at_ l i).a (And.intro (cellB hX7 rfl) ?_)
    refine Exists.intro (at_ l i).b (And.intro (cellB hX7 rfl) ?_)
    refine call_ (RPut1 g7 2 false [(at_ l i).a, (at_ l i).b] 2 rfl (good_two Pool.w2 hf hk) (fun q hq => ?_) (by simp only [List.length_cons, List.length_nil, List.length_append, enc_length]; omega)) ?_
    · rcases List.mem_cons.1 hq with rfl | hq
      · exact fits_i64 (k := 2) (.inr (.inl rfl)) hf
      · rw [List.mem_singleton.1 hq]
        exact fits_i64 (k := 2) (.inr (.inl rfl)) hk
    rintro e w8 ⟨A8, c8, rfl, g8, _⟩
    refine ⟨_, rfl, ?_⟩
    exact hK3 (A8, c8, _) _ _ ⟨rfl, rfl, rfl, trivial⟩ ⟨g8, by rw [he]; simp⟩
  | utf t => exact absurd (hkd.symm.trans t) h1
  | int t => exact absurd (hkd.symm.trans t) h3
  | long t => exact absurd (hkd.symm.trans t) h5
  | cls t => exact absurd (hkd.symm.trans t) h7

end Go.Proofs.YtdcaafldnbcdkaaDoor.Class

/-! ### KRef6 -/
namespace Go.Proofs.YtdcaafldnbcdkaaDoor.Class
open Go Go.Proofs.YtdcaafldnbcdkaaDoor Go.Proofs.YtdcaafldnbcdkaaDoor.Eng Go.Proofs Go.Proofs.YtdcaafldnbcdkaaDoor.Word Go.Proofs.YtdcaafldnbcdkaaDoor.Fmt
open Go.Proofs.YtdcaafldnbcdkaaDoor.Pool (Ent at_ poolF strV entC entV EntOk Pl OkPool both own_low tagAt)
set_option maxRecDepth 10000

theorem Wri.by_or {α β : Type} {T : Tell α} {c : Nat} {t t1 : WT} {y : β} {f : β → α} {P : β → Prop} {hf : ∀ x y, P x → P y → f x = f y → x = y} {p : Bool} (e : p = true ↔ P y) (hp : p = true → Wri T c (t.1, t.2 || !p) (f y) t1) (hn : p = false → t1.2 = true ∧ t1.1.length ≤ t.1.length + c) : Wri (byT T f P hf) c t y t1 := by
  cases hpp : p with
  | false => exact Wri.nok (hn hpp).1 (hn hpp).2 fun o => by have := e.2 o.1; rw [hpp] at this; cases this
  | true => exact Wri.by (p := p) (hp hpp) rfl e
theorem keep_bad {α : Type} {T : Tell α} {c : Nat} {t t1 : WT} {x : α} (h : Wri T c t x t1) (e : t.2 = true) : t1.2 = true := by
  cases h1 : t1.2 with
  | true => rfl
  | false => have := h.keep h1; rw [e] at this; cases this
theorem noteU_two {t : WT} {n : Nat} (h : n < 65536) : noteU t 2 [0, (n : Int)] = noteU (noteU t 2 [0]) 2 [(n : Int)] := by
  have f0 : Word.fits ((2 : Nat) : Int) 0 false = true := (Pool.fits2 (by omega) (by omega)).1
  have fn : Word.fits ((2 : Nat) : Int) (n : Int) false = true := (Pool.fits2 (by omega) (by omega)).1
  have g1 := good_one (k := 2) (sign := false) Pool.w2 f0
  have g2 := good_one (k := 2) (sign := false) Pool.w2 fn
  have g3 := good_two (k := 2) (sign := false) Pool.w2 f0 fn
  rw [noteU_good g1, noteU_good g2, noteU_good g3]
  unfold allBs
  rw [g1, g2, g3]
  simp
abbrev mthC (y : Mth) (Ab : Option Addr) (cb : Nat) (Ah : Option Addr) (ch : Nat) (Am : Option Addr) (cm : Nat) : Array Value := #[zi y.acc, strV y.name, strV y.typ, zi y.code.stack, zi y.code.locals, .slice Ab y.code.bytes.length cb, .slice Ah y.code.hands.length ch, .slice Am y.code.maps.length cm]
theorem rowM {w : World} {M : Nat} {y : Mth} {Ab Ah Am : Option Addr} {cb ch cm : Nat} (hM : w.heap[M]? = some (.cells (mthC y Ab cb Ah ch Am cm) 36 (0, 0))) (j : Nat) (u : Value) (hu : [zi y.code.stack, zi y.code.locals, .slice Ab y.code.bytes.length cb, .slice Ah y.code.hands.length ch, .slice Am y.code.maps.length cm][j]? = some u) : w.cell? (((⟨M, 0, none⟩ : Addr).add 3).add j) = some u := by
  rw [add_add_]
  refine cellB hM ?_
  rw [← hu, ← Array.getElem?_toList]
  show ([zi y.acc, strV y.name, strV y.typ] ++ [zi y.code.stack, zi y.code.locals, .slice Ab y.code.bytes.length cb, .slice Ah y.code.hands.length ch, .slice Am y.code.maps.length cm])[3 + j]? = _
  rw [List.getElem?_append_right (show 3 ≤ 3 + j by omega)]
  show [zi y.code.stack, zi y.code.locals, .slice Ab y.code.bytes.length cb, .slice Ah y.code.hands.length ch, .slice Am y.code.maps.length cm][3 + j - 3]? = _
  rw [Nat.add_sub_cancel_left]
/-- A method that is being told. -/
structure Mm (w1 : World) (base : Nat) (p : Po) (h : Nat) (v : Value) (E : Nat) (y : Mth) (Ab : Option Addr) (cb : Nat) (Ah : Option Addr) (ch : Nat) (Am : Option Addr) (cm : Nat) (wl : World) (v' : Value) (t' : WT) : Prop where
  kr : Kr w1 base p h v wl v' t'
  blk : wl.heap[E]? = some (.cells (mthC y Ab cb Ah ch Am cm) 36 (0, 0))
  hid : ¬ RHb h v' E
  l1 : LRep u8R wl (fun q => RHb h v q ∨ w1.heap.size ≤ q) (.slice Ab y.code.bytes.length cb) y.code.bytes
  l2 : LRep hndR wl (fun q => RHb h v q ∨ w1.heap.size ≤ q) (.slice Ah y.code.hands.length ch) y.code.hands
  l3 : LRep mpR wl (fun q => RHb h v q ∨ w1.heap.size ≤ q) (.slice Am y.code.maps.length cm) y.code.maps
theorem Mm.act {w1 wl w' : World} {base h E : Nat} {p : Po} {v v' v'' : Value} {t' t'' : WT} {y : Mth} {Ab Ah Am : Option Addr} {cb ch cm : Nat} (m : Mm w1 base p h v E y Ab cb Ah ch Am cm wl v' t') (k : Kr wl base p h v' w' v'' t'') : Mm w1 base p h v E y Ab cb Ah ch Am cm w' v'' t'' := by
  have hl := (Array.getElem?_eq_some_iff.1 m.blk).1
  have hs := m.kr.mod.size
  have hk := k.mod.mono fun q _ e => m.kr.back e
  exact ⟨m.kr.then k, k.blk m.blk m.hid, k.hid hl m.hid, LRep.mod u8Ok (by decide) m.l1 hk, LRep.mod hndOk (by decide) m.l2 hk, LRep.mod mpOk (by decide) m.l3 hk⟩
theorem not_ok {c : Cls} (h : ¬ fileT.ok c) : errOf c = 80 ∧ bytesOf c = [] := by
  unfold errOf bytesOf
  exact ⟨if_neg h, if_neg fun e => h e.1⟩
theorem file_few {c : Cls} (o : fileT.ok c) : c.fields.length ≤ 256 ∧ c.methods.length ≤ 256 := ⟨o.2.2.2.2.2.2.2.2.2.1.1, o.2.2.2.2.2.2.2.2.2.2.1.1⟩
def magicS : List UInt8 := [202, 254, 186, 190, 0, 0, 0, 52]
theorem magic_is : (enc 4 3405691582 ++ (enc 2 0 ++ enc 2 52)) = magicS := by decide
theorem rPrint_ok (cs0 : List Value) (c : Cls) (S : Nat → Prop) (w : World) (hx : clsR w S cs0 c) (hf : fCls c) (hi : iCls c) (hk : Kt w) (hG : 0 < w.heap.size) (hm : cCls c ≤ 500000000) :
    Calls Tryd.prog 14 #[.agg cs0.toArray] w (PrRes w c) := by
  replace hx := clsOk.weak (S' := fun b => w.heap.size + 1 ≤ b) hx fun b hb e => by omega
  obtain ⟨_, _, _, rfl, lp, lf, lm⟩ := hx
  obtain ⟨hfp, hff, hfm⟩ := hf
  have hcost : cCls c = csum cFld c.fields + csum cMth c.methods := rfl
  obtain ⟨A, q, rfl, pl, hq1, hq2, plow⟩ := pool_row lp hfp
  obtain ⟨_, _, _, hpn, _⟩ := lp.get entOk (by decide)
  have lf0 := lf
  obtain ⟨Af, cf, rfl, hnf, _⟩ := lf.get fldOk (by decide)
  have lm0 := lm
  obtain ⟨Am, cm, rfl, hnm, _⟩ := lm.get mthOk (by decide)
  refine enter ok Tryd.func14 rfl rfl rfl ?_
  obtain ⟨M, hMe⟩ : ∃ M, M = w.heap.size := ⟨_, rfl⟩
  refine seq_cut (σ := Unit) (fun _ => [(1, .pointer (some ⟨M, 0, none⟩))]) (fun _ w' => New w w' ∧ w'.heap.size = w.heap.size + 1 ∧ w'.heap[M]? = some (.cells #[.slice A c.pool.length q, strV c.name, strV c.super, .slice Af c.fields.length cf, .slice Am c.methods.length cm] 26 (0, 0))) ?_ ?_
  rotate_left
  · intro K hK
    rw [hMe] at hK
    exact hK () _ _ ⟨rfl, trivial⟩ ⟨New.alloc w _, by simp, heap_alloc_new w (.cells #[.slice A c.pool.length q, strV c.name, strV c.super, .slice Af c.fields.length cf, .slice Am c.methods.length cm] 26)⟩
  rintro _ wa fra ⟨na, sa, hMa⟩
  refine seq_cut (σ := Unit) (fun _ => [(1, .pointer (some ⟨M, 0, none⟩))]) (fun _ w' => New wa w' ∧ Pool.okB c.pool = true ∧ c.fields.length ≤ 256 ∧ c.methods.length ≤ 256) ?_ ?_
  rotate_left
  · intro K hK
    refine Exists.intro A (Exists.intro c.pool.length (Exists.intro q (And.intro (cellB hMa rfl) ?_)))
    refine call_ (Pool.RCheck_ok A c.pool.length q c.pool wa (pl.new na)) ?_
    rintro e wb ⟨rfl, nb⟩
    refine ⟨_, rfl, ?_⟩
    have nw := na.trans nb
    have hMb := nb.blk hMa
    rcases (Pool.chk_cases c.pool).symm with ⟨hc, ho⟩ | ⟨hc, ho⟩
    · rw [hc]
      refine Exists.intro Af (Exists.intro c.fields.length (Exists.intro cf (And.intro (cellB hMb rfl) ?_)))
      refine if_p (fun h1 => ?_) (fun h1 => ?_)
      · replace h1 : 256 < (c.fields.length : Int) := h1
        exact pr_bad (not_ok fun o => by have := (file_few o).1; omega) nw
      · replace h1 : ¬ 256 < (c.fields.length : Int) := h1
        refine Exists.intro Am (Exists.intro c.methods.length (Exists.intro cm (And.intro (cellB hMb rfl) ?_)))
        refine if_p (fun h2 => ?_) (fun h2 => ?_)
        · replace h2 : 256 < (c.methods.length : Int) := h2
          exact pr_bad (not_ok fun o => by have := (file_few o).2; omega) nw
        · replace h2 : ¬ 256 < (c.methods.length : Int) := h2
          exact hK () _ _ ⟨rfl, trivial⟩ ⟨nb, ho, by omega, by omega⟩
    · rw [hc]
      exact pr_bad (not_pool ho) nw
  rintro _ wb frb ⟨nb, ho, hfe, hme⟩
  have hO : OkPool c.pool := (Pool.okB_iff c.pool).1 ho
  have hel := enc_len ho hfp
  have hMb := nb.blk hMa
  have hsb := nb.size
  obtain ⟨base, hbase⟩ : ∃ base, base = wb.heap.size := ⟨_, rfl⟩
  have cx : Cx wb base ⟨A, q, c.pool⟩ :=
    ⟨pl.new (na.trans nb), fun a ha hn => by have := (plow a ha hn).1; omega, fun k h0 h5 => (na.trans nb).cell (hk k h0 h5), by omega, by omega, hpn⟩
  -- its head
  refine seq_cut (σ := Nat × Value) (fun s => [(1, .pointer (some ⟨M, 0, none⟩)), (4, .pointer (some ⟨s.1, 0, none⟩))]) (fun s w' => New wb w' ∧ Ri w' base ⟨A, q, c.pool⟩ s.1 s.2 (magicS, false)) ?_ ?_
  rotate_left
  · intro K hK
    refine Exists.intro A (Exists.intro c.pool.length (Exists.intro q (And.intro (cellB hMb rfl) ?_)))
    have n1 := New.alloc wb (.cells (bvs magicS).toArray 5)
    have o1 := own_lit wb (bvs magicS) 5 1 8 base (by omega) rfl (by decide)
    have n2 := New.alloc (wb.alloc (.cells (bvs magicS).toArray 5)) (.cells #[.slice A c.pool.length q, .slice (some ⟨wb.heap.size, 0, none⟩) 8 8, .bool false] 100)
    have hb2 := heap_alloc_new (wb.alloc (.cells (bvs magicS).toArray 5)) (.cells #[.slice A c.pool.length q, .slice (some ⟨wb.heap.size, 0, none⟩) 8 8, .bool false] 100)
    have s1 : (wb.alloc (.cells (bvs magicS).toArray 5)).heap.size = wb.heap.size + 1 := by simp
    exact hK ((wb.alloc (.cells (bvs magicS).toArray 5)).heap.size, .slice (some ⟨wb.heap.size, 0, none⟩) 8 8) _ _ ⟨rfl, rfl, trivial⟩ ⟨n1.trans n2, ⟨hb2, own_new n2 o1, (fun e => by simp [Value.ownBlock] at e), by dsimp only; omega, cx.new (n1.trans n2)⟩⟩
  rintro ⟨h, v0⟩ w1 fr1 ⟨n1, c1⟩
  dsimp only at c1
  have hM1 := n1.blk hMb
  have hMn : ¬ RHb h v0 M := fun e => by
    have := c1.at_ e
    omega
  have n01 := (na.trans nb).trans n1
  have hf1 : LRep fldR w1 (RHb h v0) (.slice Af c.fields.length cf) c.fields := LRep.weak fldOk (LRep.mod fldOk (by decide) lf0 (n01.mod.mono fun _ _ e => False.elim e)) fun b _ e => by have := c1.at_ e; omega
  have hm1 : LRep mthR w1 (RHb h v0) (.slice Am c.methods.length cm) c.methods := LRep.weak mthOk (LRep.mod mthOk (by decide) lm0 (n01.mod.mono fun _ _ e => False.elim e)) fun b _ e => by have := c1.at_ e; omega
  have fresh : ∀ {w' : World} {v' : Value} {t' : WT}, Kr w1 base ⟨A, q, c.pool⟩ h v0 w' v' t' → New w w' := fun k => Mod.trans n01 k.mod fun b hb e => by have := c1.at_ e; omega
  have hb1 := c1.bw
  have q2 : Wri n4 4 ([], false) 3405691582 (enc 4 3405691582, false) := ⟨by simp [enc_length], .inr ⟨rfl, rfl, ⟨by decide, by unfold i64; decide⟩, rfl⟩⟩
  have q3 : Wri (seqT n2 n2) 4 (enc 4 3405691582, false) (0, 52) (magicS, false) := ⟨by decide, .inr ⟨rfl, rfl, ⟨n2_ok (by decide) (by decide), n2_ok (by decide) (by decide)⟩, by rw [← magic_is]; rfl⟩⟩
  have kk1 := Kr.refl c1
  -- its pool
  refine seq_cut (σ := Value) (fun _ => [(1, .pointer (some ⟨M, 0, none⟩)), (4, .pointer (some ⟨h, 0, none⟩))]) (fun v' w' => Kr w1 base ⟨A, q, c.pool⟩ h v0 w' v' (magicS ++ poolF.enc c.pool, false)) ?_ ?_
  rotate_left
  · intro K hK
    obtain ⟨A3, c3, rfl, _⟩ := own_slice c1.own
    have nd := New.drew w1
    refine draw_ (w := w1) ok (.q 0 (.q 1 (.q 2 (.q 3 (.q 4 (.q 5 (.q 6 (.e 7 (.e 8 (.q 9 (.q 10 (.e 11 .done)))))))))))) [11] (fun w'' : World => w''.heap[h]? = some (.cells #[.slice A c.pool.length q, .slice A3 magicS.length c3, .bool false] 100 (0, 0)) ∧ w''.heap[M]? = some (.cells #[.slice A c.pool.length q, strV c.name, strV c.super, .slice Af c.fields.length cf, .slice Am c.methods.length cm] 26 (0, 0))) (by kernel_rfl) (by kernel_rfl) (by kernel_rfl) (by kernel_rfl) (by kernel_rfl) ⟨nd.blk c1.blk, nd.blk hM1⟩ ?_
    refine Exists.intro A3 (Exists.intro magicS.length (Exists.intro c3 (And.intro (fun w'' hw => cellB hw.1 rfl) ?_)))
    refine Exists.intro A (Exists.intro c.pool.length (Exists.intro q (And.intro (fun w'' hw => cellB hw.2 rfl) ?_)))
    have kd := kk1.new nd
    refine call_ (RBytes_ok A q c.pool w1.drew kd.ri.cx.pl ho) ?_
    rintro e w2 ⟨A2, c2, rfl, g2⟩
    refine ⟨_, rfl, ?_⟩
    have k2 := kd.new g2.new
    refine Exists.intro (fun w'' : World => w''.heap[h]? = some (.cells #[.slice A c.pool.length q, .slice A3 magicS.length c3, .bool false] 100 (0, 0)) ∧ w''.heap[M]? = some (.cells #[.slice A c.pool.length q, strV c.name, strV c.super, .slice Af c.fields.length cf, .slice Am c.methods.length cm] 26 (0, 0))) ?_
    refine And.intro (fun _ h => h) ?_
    refine And.intro ⟨g2.new.blk (nd.blk c1.blk), g2.new.blk (nd.blk hM1)⟩ ?_
    obtain ⟨_, _, he, _, _, row2, _⟩ := own_slice g2.own
    cases he
    refine eff_app rfl rfl (fun _ _ => rfl) ?_
    refine append2_ ok rfl rfl rfl rfl k2.ri.own rfl rfl row2 (by rw [bvs_length]; exact (Nat.mul_one _).symm) (bvs_one _) (by decide) rfl (by show (8 + (poolF.enc c.pool).length) * 1 ≤ _; omega) (by show 8 + (poolF.enc c.pool).length ≤ _; omega) k2.ri.bw ?_
    intro A7 c7 w7 own7 mod7 st7
    have hb7 := mod7.blk k2.ri.blk (fun e => k2.ri.off e.symm)
    have hM7 := mod7.blk (g2.new.blk (nd.blk hM1)) (fun e => hMn (.inl e))
    refine Exists.intro (fun w'' : World => w''.heap[h]? = some (.cells #[.slice A c.pool.length q, .slice A3 magicS.length c3, .bool false] 100 (0, 0)) ∧ w''.heap[M]? = some (.cells #[.slice A c.pool.length q, strV c.name, strV c.super, .slice Af c.fields.length cf, .slice Am c.methods.length cm] 26 (0, 0))) ?_
    refine And.intro (fun _ h => h) ?_
    refine And.intro ⟨hb7, hM7⟩ ?_
    refine And.intro ⟨_, cellB hb7 rfl⟩ (And.intro (fzB hb7 _) (force_ ?_))
    refine stK hb7 (show (1 : Nat) < 3 by decide) ?_
    intro w8 hb8 m8 s8
    have k8 := k2.ri.put (bs := magicS ++ poolF.enc c.pool) mod7 (by rw [List.length_append, bvs_append]; exact own7) st7 m8 hb8
    exact hK (.slice A7 (magicS.length + (poolF.enc c.pool).length) c7) _ _ ⟨rfl, rfl, trivial⟩ (k2.then k8)
  rintro v4 w4 fr4 kk4
  have q4 := Wri.pool (t := (magicS, false)) (l := c.pool) ⟨ho, fun x hx => (hfp x hx).n⟩
  have hl4 : magicS.length = 8 := rfl
  generalize ht4 : ((magicS ++ poolF.enc c.pool, false) : WT) = t4 at kk4
  replace q4 : Wri (tF poolF) (poolF.enc c.pool).length (magicS, false) c.pool t4 := by rw [← ht4]; exact q4
  have p4 := q4.1
  dsimp only at p4
  clear ht4
  refine seq_cut (σ := Value × WT) (fun _ => [(1, .pointer (some ⟨M, 0, none⟩)), (4, .pointer (some ⟨h, 0, none⟩))]) (fun s w' => Kr w1 base ⟨A, q, c.pool⟩ h v0 w' s.1 s.2 ∧ Wri (n2) (2) t4 33 s.2) ?_ ?_
  rotate_left
  · intro K hK
    refine call_ (ruL_ok base ⟨A, q, c.pool⟩ h v4 t4 2 [33] 1 w4 kk4.ri rfl (by simp) (by simp; omega)) ?_
    rintro e w5 ⟨rfl, v5, k5⟩
    refine ⟨_, rfl, ?_⟩
    exact hK (v5, _) _ _ ⟨rfl, rfl, trivial⟩ ⟨kk4.then k5, Wri.n2⟩
  rintro ⟨v5, t5⟩ w5 fr5 ⟨kk5, q5⟩
  dsimp only at kk5 q5
  have p5 := q5.1
  refine seq_cut (σ := Value × WT) (fun _ => [(1, .pointer (some ⟨M, 0, none⟩)), (4, .pointer (some ⟨h, 0, none⟩))]) (fun s w' => Kr w1 base ⟨A, q, c.pool⟩ h v0 w' s.1 s.2 ∧ Wri (clsT c.pool) 2 t5 c.name s.2) ?_ ?_
  rotate_left
  · intro K hK
    have hM5 := kk5.blk hM1 hMn
    refine Exists.intro (⟨c.name.toArray⟩ : ByteArray) (And.intro (cellB hM5 rfl) ?_)
    refine call_ (rwclass_ok base ⟨A, q, c.pool⟩ h v5 t5 c.name w5 kk5.ri hO (by omega)) ?_
    rintro e w6 ⟨rfl, v6, t6, k6, wr6⟩
    refine ⟨_, rfl, ?_⟩
    exact hK (v6, t6) _ _ ⟨rfl, rfl, trivial⟩ ⟨kk5.then k6, wr6⟩
  rintro ⟨v6, t6⟩ w6 fr6 ⟨kk6, q6⟩
  dsimp only at kk6 q6
  have p6 := q6.1
  refine seq_cut (σ := Value × WT) (fun _ => [(1, .pointer (some ⟨M, 0, none⟩)), (4, .pointer (some ⟨h, 0, none⟩))]) (fun s w' => Kr w1 base ⟨A, q, c.pool⟩ h v0 w' s.1 s.2 ∧ Wri (supT c.pool) 2 t6 c.super s.2) ?_ ?_
  rotate_left
  · intro K hK
    have hM6 := kk6.blk hM1 hMn
    refine Exists.intro (⟨c.super.toArray⟩ : ByteArray) (And.intro (cellB hM6 rfl) ?_)
    refine if_ (fun hs => ?_) (fun hs => ?_)
    · rw [nil_str, decide_eq_true_eq] at hs
      refine call_ (ruL_ok base ⟨A, q, c.pool⟩ h v6 t6 2 [0] 1 w6 kk6.ri rfl (by simp) (by simp; omega)) ?_
      rintro e w7 ⟨rfl, v7, k7⟩
      refine ⟨_, rfl, ?_⟩
      exact hK (v7, _) _ _ ⟨rfl, rfl, trivial⟩ ⟨kk6.then k7, Wri.sup0 Wri.n2 hs⟩
    · rw [nil_str, decide_eq_false_iff_not] at hs
      refine Exists.intro (⟨c.super.toArray⟩ : ByteArray) (And.intro (cellB hM6 rfl) ?_)
      refine call_ (rwclass_ok base ⟨A, q, c.pool⟩ h v6 t6 c.super w6 kk6.ri hO (by omega)) ?_
      rintro e w7 ⟨rfl, v7, t7, k7, wr7⟩
      refine ⟨_, rfl, ?_⟩
      exact hK (v7, t7) _ _ ⟨rfl, rfl, trivial⟩ ⟨kk6.then k7, Wri.sup1 wr7 hs⟩
  rintro ⟨v7, t7⟩ w7 fr7 ⟨kk7, q7⟩
  dsimp only at kk7 q7
  have p7 := q7.1
  -- how many fields
  obtain ⟨t8, ht8⟩ : ∃ t8, t8 = noteU t7 2 [0] := ⟨_, rfl⟩
  have q8 : Wri n2 2 t7 0 t8 := by rw [ht8]; exact Wri.n2
  have p8 := q8.1
  refine seq_cut (σ := Value × WT) (fun _ => [(1, .pointer (some ⟨M, 0, none⟩)), (4, .pointer (some ⟨h, 0, none⟩))]) (fun s w' => Kr w1 base ⟨A, q, c.pool⟩ h v0 w' s.1 s.2 ∧ Wri n2 2 (t8.1, t8.2 || !decide (c.fields.length ≤ 256)) (c.fields.length : Int) s.2) ?_ ?_
  rotate_left
  · intro K hK
    have hM7 := kk7.blk hM1 hMn
    refine Exists.intro Af (Exists.intro c.fields.length (Exists.intro cf (And.intro (cellB hM7 rfl) ?_)))
    refine call_ (ruL_ok base ⟨A, q, c.pool⟩ h v7 t7 2 [0, (c.fields.length : Int)] 2 w7 kk7.ri rfl (by simp; omega) (by simp; omega)) ?_
    rintro e w8 ⟨rfl, v8, k8⟩
    refine ⟨_, rfl, ?_⟩
    rw [noteU_two (by omega), ← ht8] at k8
    refine hK (v8, noteU t8 2 [(c.fields.length : Int)]) _ _ ⟨rfl, rfl, trivial⟩ ⟨kk7.then k8, ?_⟩
    rw [decide_eq_true hfe, Bool.not_true, Bool.or_false]
    exact Wri.n2
  rintro ⟨v8, t8'⟩ w8 fr8 ⟨kk8, wr8⟩
  dsimp only at kk8 wr8
  refine seq_cut (σ := Value × WT) (fun _ => [(1, .pointer (some ⟨M, 0, none⟩)), (4, .pointer (some ⟨h, 0, none⟩))]) (fun s w' => Kr w1 base ⟨A, q, c.pool⟩ h v0 w' s.1 s.2 ∧ Wri (fldsT c.pool) (2 + csum cFld c.fields) t8 c.fields s.2) ?_ ?_
  rotate_left
  · intro K hK
    refine seq_assign ?_
    refine den_loop (σ := Nat × Value × WT) (fun s => [(1, .pointer (some ⟨M, 0, none⟩)), (4, .pointer (some ⟨h, 0, none⟩)), (5, zi (s.1 : Int))]) (fun m s wl => c.fields.length ≤ m + s.1 ∧ s.1 ≤ c.fields.length ∧ Kr w1 base ⟨A, q, c.pool⟩ h v0 wl s.2.1 s.2.2 ∧ WLst (fldT c.pool) 256 cFld t8 c.fields s.1 s.2.2) c.fields.length (0, v8, t8') ⟨rfl, rfl, rfl, trivial⟩ ⟨by dsimp only; omega, Nat.zero_le _, kk8, WLst.start (by decide) wr8⟩ ?_
    rintro m ⟨i, vl, tl⟩ wl frl ⟨hfuel, hil, kl, hw⟩
    dsimp only at hfuel hil kl hw
    have hMl := kl.blk hM1 hMn
    refine seq_cut (σ := Unit) (fun _ => [(1, .pointer (some ⟨M, 0, none⟩)), (4, .pointer (some ⟨h, 0, none⟩)), (5, zi (i : Int))]) (fun _ w' => w' = wl ∧ i < c.fields.length) ?_ ?_
    rotate_left
    · intro K2 hK2
      refine Exists.intro Af (Exists.intro c.fields.length (Exists.intro cf (And.intro (cellB hMl rfl) ?_)))
      refine if_p (fun hlt => ?_) (fun hge => ?_)
      · replace hlt : (i : Int) < (c.fields.length : Int) := hlt
        exact hK2 () _ _ ⟨rfl, rfl, rfl, trivial⟩ ⟨rfl, by omega⟩
      · replace hge : ¬ (i : Int) < (c.fields.length : Int) := hge
        have e : i = c.fields.length := by omega
        subst e
        exact hK (vl, tl) _ _ ⟨rfl, rfl, trivial⟩ ⟨kl, hw.done⟩
    rintro _ wy fry ⟨hwy, hi'⟩
    obtain rfl := hwy.symm
    have hlt : (i : Int) < (c.fields.length : Int) := by omega
    obtain ⟨m, rfl⟩ : ∃ m', m = m' + 1 := ⟨m - 1, by omega⟩
    obtain ⟨_, _, he, _, gx⟩ := (kl.lrep fldOk (by decide) hf1).get fldOk (by decide)
    cases he
    obtain ⟨a, cs, ea, hx, hc⟩ := gx i hi'
    have hin := hff _ (List.getElem_mem hi')
    have hcs : csum cFld (c.fields.take i) + cFld c.fields[i] ≤ csum cFld c.fields := by
      have h1 := csum_le cFld c.fields (i + 1)
      rw [List.take_succ_eq_append_getElem hi', csum_snoc] at h1
      exact h1
    have hw1 := hw.1
    obtain ⟨y, hy⟩ : ∃ y, y = c.fields[i] := ⟨_, rfl⟩
    rw [← hy] at hx hin hcs
    have hx0 := hx
    obtain rfl := hx
    have h8 : cFld y = 8 := rfl
    refine seq_cut (σ := Value × WT) (fun _ => [(1, .pointer (some ⟨M, 0, none⟩)), (4, .pointer (some ⟨h, 0, none⟩)), (5, zi (i : Int))]) (fun s w' => Kr w1 base ⟨A, q, c.pool⟩ h v0 w' s.1 s.2 ∧ Wri (fldT c.pool) (cFld y) tl y s.2) ?_ ?_
    · rintro ⟨vn, tn⟩ wn frn ⟨kn, qn⟩
      dsimp only at kn qn
      have inc := incN hi' hnf
      exact ⟨m, (i + 1, vn, tn), by omega, ⟨rfl, rfl, inc, trivial⟩, by dsimp only; omega, by dsimp only; omega, kn, hw.step hi' (by rw [← hy]; exact qn)⟩
    intro K3 hK3
    refine block_ ?_
    obtain ⟨E, hE⟩ : ∃ E, E = wl.heap.size := ⟨_, rfl⟩
    refine seq_cut (σ := Unit) (fun _ => [(1, .pointer (some ⟨M, 0, none⟩)), (4, .pointer (some ⟨h, 0, none⟩)), (5, zi (i : Int)), (6, .pointer (some ⟨E, 0, none⟩))]) (fun _ w' => New wl w' ∧ w'.heap[E]? = some (.cells #[zi y.acc, strV y.name, strV y.typ] 44 (0, 0))) ?_ ?_
    rotate_left
    · intro K4 hK4
      refine Exists.intro Af (Exists.intro c.fields.length (Exists.intro cf (And.intro (cellB hMl rfl) ?_)))
      refine And.intro (by omega) (And.intro hlt ?_)
      refine some_at ea ?_
      refine loadN_row (vs := [zi y.acc, strV y.name, strV y.typ]) (fun j u hu => by rw [Int.toNat_natCast]; exact hc j u hu) rfl ?_
      refine And.intro rfl ?_
      refine storeNew (vs := [zi y.acc, strV y.name, strV y.typ]) (arr := #[zi 0, .string ⟨#[]⟩, .string ⟨#[]⟩]) rfl (fldOk.one hx0) ?_
      intro wn hbn nn sn
      rw [hE] at hK4
      exact hK4 () _ _ ⟨rfl, rfl, rfl, rfl, trivial⟩ ⟨nn, hbn⟩
    rintro _ wm frm ⟨nm, hEm⟩
    have km := kl.new nm
    have hEn : ¬ RHb h vl E := kl.ri.hi (by omega)
    have hEl : E < wm.heap.size := (Array.getElem?_eq_some_iff.1 hEm).1
    refine seq_cut (σ := Bool) (fun _ => [(1, .pointer (some ⟨M, 0, none⟩)), (4, .pointer (some ⟨h, 0, none⟩)), (5, zi (i : Int)), (6, .pointer (some ⟨E, 0, none⟩))]) (fun b w' => Kr wm base ⟨A, q, c.pool⟩ h vl w' vl (tl.1, tl.2 || !b) ∧ (b = true ↔ y.acc = 0 ∨ y.acc = 8)) ?_ ?_
    rotate_left
    · intro K4 hK4
      have fin : ∀ b : Bool, (b = true ↔ y.acc = 0 ∨ y.acc = 8) → ∀ K' : Value → World → Prop, (∀ w', Kr wm base ⟨A, q, c.pool⟩ h vl w' vl (tl.1, tl.2 || !b) → K' (.tuple #[]) w') → callQ Tryd.prog 54 [.pointer (some ⟨h, 0, none⟩), .bool b] wm K' := fun b hb K' hK' => by
        refine call_ (rmust_ok base ⟨A, q, c.pool⟩ h vl tl b wm km.ri) ?_
        rintro e wn ⟨rfl, kn⟩
        exact ⟨_, rfl, hK' wn kn⟩
      refine Exists.intro y.acc (And.intro (cellB hEm rfl) ?_)
      refine if_p (fun h0 => ?_) (fun h0 => ?_)
      · replace h0 : y.acc = 0 := h0
        have hbq : true = true ↔ y.acc = 0 ∨ y.acc = 8 := by simp only [true_iff]; omega
        exact fin true hbq _ fun w' k' => hK4 true _ _ ⟨rfl, rfl, rfl, rfl, trivial⟩ ⟨k', hbq⟩
      · replace h0 : ¬ y.acc = 0 := h0
        refine Exists.intro y.acc (And.intro (cellB hEm rfl) ?_)
        have hbq : decide (y.acc = 8) = true ↔ y.acc = 0 ∨ y.acc = 8 := by
          rw [decide_eq_true_eq]
          omega
        exact fin _ hbq _ fun w' k' => hK4 _ _ _ ⟨rfl, rfl, rfl, rfl, trivial⟩ ⟨k', hbq⟩
    rintro b wn frn ⟨kn, hb⟩
    have hEn2 := kn.blk hEm hEn
    obtain ⟨zz, hzz⟩ : ∃ zz, zz = (if 0 < y.acc then y.acc else 0) := ⟨_, rfl⟩
    have hz64 : -9223372036854775808 ≤ zz ∧ zz ≤ 9223372036854775807 := by
      unfold i64 at hin
      rw [hzz]
      split <;> omega
    have hzz2 : b = true → zz = y.acc := fun e => by
      have := hb.1 e
      rw [hzz]
      split <;> omega
    refine seq_cut (σ := Value × WT) (fun _ => [(1, .pointer (some ⟨M, 0, none⟩)), (4, .pointer (some ⟨h, 0, none⟩)), (5, zi (i : Int)), (6, .pointer (some ⟨E, 0, none⟩))]) (fun s w' => Kr wm base ⟨A, q, c.pool⟩ h vl w' s.1 s.2 ∧ Wri n2 2 (tl.1, tl.2 || !b) zz s.2) ?_ ?_
    rotate_left
    · intro K4 hK4
      refine Exists.intro y.acc (And.intro (cellB hEn2 rfl) ?_)
      have hcall := ruL_ok base ⟨A, q, c.pool⟩ h vl (tl.1, tl.2 || !b) 2 [zz] 1 wn kn.ri rfl (fun q hq => by rw [List.mem_singleton.1 hq]; exact hz64) (by simp; omega)
      rw [hzz] at hcall
      refine call_ hcall ?_
      rw [← hzz]
      rintro e wo ⟨rfl, vo, ko⟩
      refine ⟨_, rfl, ?_⟩
      exact hK4 (vo, _) _ _ ⟨rfl, rfl, rfl, rfl, trivial⟩ ⟨kn.then ko, Wri.n2⟩
    rintro ⟨vo, to⟩ wo fro ⟨ko, qo⟩
    dsimp only at ko qo
    have po := qo.1
    dsimp only at po
    refine seq_cut (σ := Value × WT) (fun _ => [(1, .pointer (some ⟨M, 0, none⟩)), (4, .pointer (some ⟨h, 0, none⟩)), (5, zi (i : Int)), (6, .pointer (some ⟨E, 0, none⟩))]) (fun s w' => Kr wm base ⟨A, q, c.pool⟩ h vl w' s.1 s.2 ∧ Wri (utfT c.pool) 2 to y.name s.2) ?_ ?_
    rotate_left
    · intro K4 hK4
      refine Exists.intro (⟨y.name.toArray⟩ : ByteArray) (And.intro (cellB (ko.blk hEm hEn) rfl) ?_)
      refine call_ (rwutf_ok base ⟨A, q, c.pool⟩ h vo to y.name wo ko.ri hO (by omega)) ?_
      rintro e wp ⟨rfl, vp, tp, kp, qp⟩
      refine ⟨_, rfl, ?_⟩
      exact hK4 (vp, tp) _ _ ⟨rfl, rfl, rfl, rfl, trivial⟩ ⟨ko.then kp, qp⟩
    rintro ⟨vp, tp⟩ wp frp ⟨kp, qp⟩
    dsimp only at kp qp
    have pp := qp.1
    refine seq_cut (σ := Value × WT) (fun _ => [(1, .pointer (some ⟨M, 0, none⟩)), (4, .pointer (some ⟨h, 0, none⟩)), (5, zi (i : Int))]) (fun s w' => Kr wm base ⟨A, q, c.pool⟩ h vl w' s.1 s.2 ∧ Wri (utfT c.pool) 2 tp y.typ s.2) ?_ ?_
    rotate_left
    · intro K4 hK4
      refine Exists.intro (⟨y.typ.toArray⟩ : ByteArray) (And.intro (cellB (kp.blk hEm hEn) rfl) ?_)
      refine call_ (rwutf_ok base ⟨A, q, c.pool⟩ h vp tp y.typ wp kp.ri hO (by omega)) ?_
      rintro e wq ⟨rfl, vq, tq, kq, qq⟩
      refine ⟨_, rfl, ?_⟩
      exact hK4 (vq, tq) _ _ ⟨rfl, rfl, rfl, trivial⟩ ⟨kp.then kq, qq⟩
    rintro ⟨vq, tq⟩ wq frq ⟨kq, qq⟩
    dsimp only at kq qq
    have pq := qq.1
    refine call_ (ruL_ok base ⟨A, q, c.pool⟩ h vq tq 2 [0] 1 wq kq.ri rfl (by simp) (by simp; omega)) ?_
    rintro e wr ⟨rfl, vr, kr⟩
    refine ⟨_, rfl, ?_⟩
    have qr : Wri n2 2 tq 0 (noteU tq 2 [0]) := Wri.n2
    have pr := qr.1
    refine hK3 (vr, noteU tq 2 [0]) _ _ ⟨rfl, rfl, rfl, trivial⟩ ⟨(km.then kq).then kr, ?_⟩
    refine Wri.by_or hb (fun e => ?_) (fun e => ⟨keep_bad qr (keep_bad qq (keep_bad qp (keep_bad qo (by dsimp only; rw [e]; simp)))), by dsimp only; omega⟩)
    have q := qo.seq (qp.seq (qq.seq qr))
    rw [hzz2 e] at q
    exact Wri.le q (by omega)
  rintro ⟨v9, t9⟩ w9 fr9 ⟨kk9, q9⟩
  dsimp only at kk9 q9
  have p9 := q9.1
  refine seq_cut (σ := Value × WT) (fun _ => [(1, .pointer (some ⟨M, 0, none⟩)), (4, .pointer (some ⟨h, 0, none⟩))]) (fun s w' => Kr w1 base ⟨A, q, c.pool⟩ h v0 w' s.1 s.2 ∧ Wri n2 2 (t9.1, t9.2 || !decide (c.methods.length ≤ 256)) (c.methods.length : Int) s.2) ?_ ?_
  rotate_left
  · intro K hK
    have hM9 := kk9.blk hM1 hMn
    refine Exists.intro Am (Exists.intro c.methods.length (Exists.intro cm (And.intro (cellB hM9 rfl) ?_)))
    refine call_ (ruL_ok base ⟨A, q, c.pool⟩ h v9 t9 2 [(c.methods.length : Int)] 1 w9 kk9.ri rfl (by simp; omega) (by simp; omega)) ?_
    rintro e wx ⟨rfl, vx, kx⟩
    refine ⟨_, rfl, ?_⟩
    refine hK (vx, _) _ _ ⟨rfl, rfl, trivial⟩ ⟨kk9.then kx, ?_⟩
    rw [decide_eq_true hme, Bool.not_true, Bool.or_false]
    exact Wri.n2
  rintro ⟨v9', t9'⟩ w9' fr9' ⟨kk9', wr9⟩
  dsimp only at kk9' wr9
  refine seq_cut (σ := Value × WT) (fun _ => [(1, .pointer (some ⟨M, 0, none⟩)), (4, .pointer (some ⟨h, 0, none⟩))]) (fun s w' => Kr w1 base ⟨A, q, c.pool⟩ h v0 w' s.1 s.2 ∧ Wri (mthsT c.pool) (2 + csum cMth c.methods) t9 c.methods s.2) ?_ ?_
  rotate_left
  · intro K hK
    refine seq_assign ?_
    refine den_loop (σ := Nat × Value × WT) (fun s => [(1, .pointer (some ⟨M, 0, none⟩)), (4, .pointer (some ⟨h, 0, none⟩)), (7, zi (s.1 : Int))]) (fun m s wl => c.methods.length ≤ m + s.1 ∧ s.1 ≤ c.methods.length ∧ Kr w1 base ⟨A, q, c.pool⟩ h v0 wl s.2.1 s.2.2 ∧ WLst (mthT c.pool) 256 cMth t9 c.methods s.1 s.2.2) c.methods.length (0, v9', t9') ⟨rfl, rfl, rfl, trivial⟩ ⟨by dsimp only; omega, Nat.zero_le _, kk9', WLst.start (by decide) wr9⟩ ?_
    rintro m ⟨i, vl, tl⟩ wl frl ⟨hfuel, hil, kl, hw⟩
    dsimp only at hfuel hil kl hw
    have hMl := kl.blk hM1 hMn
    refine seq_cut (σ := Unit) (fun _ => [(1, .pointer (some ⟨M, 0, none⟩)), (4, .pointer (some ⟨h, 0, none⟩)), (7, zi (i : Int))]) (fun _ w' => w' = wl ∧ i < c.methods.length) ?_ ?_
    rotate_left
    · intro K2 hK2
      refine Exists.intro Am (Exists.intro c.methods.length (Exists.intro cm (And.intro (cellB hMl rfl) ?_)))
      refine if_p (fun hlt => ?_) (fun hge => ?_)
      · replace hlt : (i : Int) < (c.methods.length : Int) := hlt
        exact hK2 () _ _ ⟨rfl, rfl, rfl, trivial⟩ ⟨rfl, by omega⟩
      · replace hge : ¬ (i : Int) < (c.methods.length : Int) := hge
        have e : i = c.methods.length := by omega
        subst e
        exact hK (vl, tl) _ _ ⟨rfl, rfl, trivial⟩ ⟨kl, hw.done⟩
    rintro _ wy fry ⟨hwy, hi'⟩
    obtain rfl := hwy.symm
    have hlt : (i : Int) < (c.methods.length : Int) := by omega
    obtain ⟨m, rfl⟩ : ∃ m', m = m' + 1 := ⟨m - 1, by omega⟩
    obtain ⟨_, _, he, _, gx⟩ := (kl.wide mthOk (by decide) hm1).get mthOk (by decide)
    cases he
    obtain ⟨a, cs, ea, hx, hc⟩ := gx i hi'
    have hin := hfm _ (List.getElem_mem hi')
    have hic := hi _ (List.getElem_mem hi')
    have hcs : csum cMth (c.methods.take i) + cMth c.methods[i] ≤ csum cMth c.methods := by
      have h1 := csum_le cMth c.methods (i + 1)
      rw [List.take_succ_eq_append_getElem hi', csum_snoc] at h1
      exact h1
    have hw1 := hw.1
    obtain ⟨y, hy⟩ : ∃ y, y = c.methods[i] := ⟨_, rfl⟩
    rw [← hy] at hx hin hic hcs
    have hx0 := hx
    obtain ⟨_, _, _, rfl, hy1, hy2, hy3⟩ := hx
    obtain ⟨Ab, cb, rfl, _⟩ := hy1.get u8Ok (by decide)
    obtain ⟨Ah, ch, rfl, _⟩ := hy2.get hndOk (by decide)
    obtain ⟨Am2, cm2, rfl, _⟩ := hy3.get mpOk (by decide)
    have hcm : cMth y = 14 + cCod y.code := rfl
    refine seq_cut (σ := Value × WT) (fun _ => [(1, .pointer (some ⟨M, 0, none⟩)), (4, .pointer (some ⟨h, 0, none⟩)), (7, zi (i : Int))]) (fun s w' => Kr w1 base ⟨A, q, c.pool⟩ h v0 w' s.1 s.2 ∧ Wri (mthT c.pool) (cMth y) tl y s.2) ?_ ?_
    · rintro ⟨vn, tn⟩ wn frn ⟨kn, qn⟩
      dsimp only at kn qn
      have inc := incN hi' hnm
      exact ⟨m, (i + 1, vn, tn), by omega, ⟨rfl, rfl, inc, trivial⟩, by dsimp only; omega, by dsimp only; omega, kn, hw.step hi' (by rw [← hy]; exact qn)⟩
    intro K3 hK3
    refine block_ ?_
    obtain ⟨E, hE⟩ : ∃ E, E = wl.heap.size := ⟨_, rfl⟩
    refine seq_cut (σ := Unit) (fun _ => [(1, .pointer (some ⟨M, 0, none⟩)), (4, .pointer (some ⟨h, 0, none⟩)), (7, zi (i : Int)), (8, .pointer (some ⟨E, 0, none⟩))]) (fun _ w' => Mm w1 base ⟨A, q, c.pool⟩ h v0 E y Ab cb Ah ch Am2 cm2 w' vl tl) ?_ ?_
    rotate_left
    · intro K4 hK4
      refine Exists.intro Am (Exists.intro c.methods.length (Exists.intro cm (And.intro (cellB hMl rfl) ?_)))
      refine And.intro (by omega) (And.intro hlt ?_)
      refine some_at ea ?_
      refine loadN_row (vs := (mthC y Ab cb Ah ch Am2 cm2).toList) (fun j u hu => by rw [Int.toNat_natCast]; exact hc j u hu) rfl ?_
      refine And.intro rfl ?_
      refine storeNew (vs := (mthC y Ab cb Ah ch Am2 cm2).toList) (arr := #[zi 0, .string ⟨#[]⟩, .string ⟨#[]⟩, zi 0, zi 0, .slice none 0 0, .slice none 0 0, .slice none 0 0]) rfl (mthOk.one hx0) ?_
      intro wn hbn nn sn
      rw [hE] at hK4
      have hn0 := nn.mod.mono (S' := fun q => RHb h v0 q ∨ w1.heap.size ≤ q) fun _ _ e => False.elim e
      exact hK4 () _ _ ⟨rfl, rfl, rfl, rfl, trivial⟩ ⟨kl.new nn, hbn, kl.ri.hi (Nat.le_refl _), LRep.mod u8Ok (by decide) hy1 hn0, LRep.mod hndOk (by decide) hy2 hn0, LRep.mod mpOk (by decide) hy3 hn0⟩
    rintro _ wm frm mm
    refine seq_cut (σ := Bool) (fun _ => [(1, .pointer (some ⟨M, 0, none⟩)), (4, .pointer (some ⟨h, 0, none⟩)), (7, zi (i : Int)), (8, .pointer (some ⟨E, 0, none⟩))]) (fun b w' => Mm w1 base ⟨A, q, c.pool⟩ h v0 E y Ab cb Ah ch Am2 cm2 w' vl (tl.1, tl.2 || !b) ∧ (b = true ↔ y.acc = 0 ∨ y.acc = 8 ∨ y.acc = 32 ∨ y.acc = 40)) ?_ ?_
    rotate_left
    · intro K4 hK4
      have fin : ∀ b : Bool, (b = true ↔ y.acc = 0 ∨ y.acc = 8 ∨ y.acc = 32 ∨ y.acc = 40) → ∀ K' : Value → World → Prop, (∀ w', Mm w1 base ⟨A, q, c.pool⟩ h v0 E y Ab cb Ah ch Am2 cm2 w' vl (tl.1, tl.2 || !b) → K' (.tuple #[]) w') → callQ Tryd.prog 54 [.pointer (some ⟨h, 0, none⟩), .bool b] wm K' := fun b hb K' hK' => by
        refine call_ (rmust_ok base ⟨A, q, c.pool⟩ h vl tl b wm mm.kr.ri) ?_
        rintro e wn ⟨rfl, kn⟩
        exact ⟨_, rfl, hK' wn (mm.act kn)⟩
      refine Exists.intro y.acc (And.intro (cellB mm.blk rfl) ?_)
      refine if_p (fun h0 => ?_) (fun h0 => ?_)
      · replace h0 : y.acc = 0 := h0
        have hbq : true = true ↔ y.acc = 0 ∨ y.acc = 8 ∨ y.acc = 32 ∨ y.acc = 40 := by simp only [true_iff]; omega
        exact fin true hbq _ fun w' k' => hK4 true _ _ ⟨rfl, rfl, rfl, rfl, trivial⟩ ⟨k', hbq⟩
      · replace h0 : ¬ y.acc = 0 := h0
        refine Exists.intro y.acc (And.intro (cellB mm.blk rfl) ?_)
        refine if_p (fun h1 => ?_) (fun h1 => ?_)
        · replace h1 : y.acc = 8 := h1
          have hbq : true = true ↔ y.acc = 0 ∨ y.acc = 8 ∨ y.acc = 32 ∨ y.acc = 40 := by simp only [true_iff]; omega
          exact fin true hbq _ fun w' k' => hK4 true _ _ ⟨rfl, rfl, rfl, rfl, trivial⟩ ⟨k', hbq⟩
        · replace h1 : ¬ y.acc = 8 := h1
          refine Exists.intro y.acc (And.intro (cellB mm.blk rfl) ?_)
          refine if_p (fun h2 => ?_) (fun h2 => ?_)
          · replace h2 : y.acc = 32 := h2
            have hbq : true = true ↔ y.acc = 0 ∨ y.acc = 8 ∨ y.acc = 32 ∨ y.acc = 40 := by simp only [true_iff]; omega
            exact fin true hbq _ fun w' k' => hK4 true _ _ ⟨rfl, rfl, rfl, rfl, trivial⟩ ⟨k', hbq⟩
          · replace h2 : ¬ y.acc = 32 := h2
            refine Exists.intro y.acc (And.intro (cellB mm.blk rfl) ?_)
            have hbq : decide (y.acc = 40) = true ↔ y.acc = 0 ∨ y.acc = 8 ∨ y.acc = 32 ∨ y.acc = 40 := by
              rw [decide_eq_true_eq]
              omega
            exact fin _ hbq _ fun w' k' => hK4 _ _ _ ⟨rfl, rfl, rfl, rfl, trivial⟩ ⟨k', hbq⟩
    rintro b wn frn ⟨mn, hb⟩
    obtain ⟨zz, hzz⟩ : ∃ zz, zz = (if 0 < y.acc then y.acc else 0) := ⟨_, rfl⟩
    have hz64 : -9223372036854775808 ≤ zz ∧ zz ≤ 9223372036854775807 := by
      unfold i64 at hin
      rw [hzz]
      split <;> omega
    have hzz2 : b = true → zz = y.acc := fun e => by
      have := hb.1 e
      rw [hzz]
      split <;> omega
    refine seq_cut (σ := Value × WT) (fun _ => [(1, .pointer (some ⟨M, 0, none⟩)), (4, .pointer (some ⟨h, 0, none⟩)), (7, zi (i : Int)), (8, .pointer (some ⟨E, 0, none⟩))]) (fun s w' => Mm w1 base ⟨A, q, c.pool⟩ h v0 E y Ab cb Ah ch Am2 cm2 w' s.1 s.2 ∧ Wri n2 2 (tl.1, tl.2 || !b) zz s.2) ?_ ?_
    rotate_left
    · intro K4 hK4
      refine Exists.intro y.acc (And.intro (cellB mn.blk rfl) ?_)
      have hcall := ruL_ok base ⟨A, q, c.pool⟩ h vl (tl.1, tl.2 || !b) 2 [zz] 1 wn mn.kr.ri rfl (fun q hq => by rw [List.mem_singleton.1 hq]; exact hz64) (by simp; omega)
      rw [hzz] at hcall
      refine call_ hcall ?_
      rw [← hzz]
      rintro e wo ⟨rfl, vo, ko⟩
      refine ⟨_, rfl, ?_⟩
      exact hK4 (vo, _) _ _ ⟨rfl, rfl, rfl, rfl, trivial⟩ ⟨mn.act ko, Wri.n2⟩
    rintro ⟨vo, to⟩ wo fro ⟨mo, qo⟩
    dsimp only at mo qo
    have po := qo.1
    dsimp only at po
    refine seq_cut (σ := Value × WT) (fun _ => [(1, .pointer (some ⟨M, 0, none⟩)), (4, .pointer (some ⟨h, 0, none⟩)), (7, zi (i : Int)), (8, .pointer (some ⟨E, 0, none⟩))]) (fun s w' => Mm w1 base ⟨A, q, c.pool⟩ h v0 E y Ab cb Ah ch Am2 cm2 w' s.1 s.2 ∧ Wri (utfT c.pool) 2 to y.name s.2) ?_ ?_
    rotate_left
    · intro K4 hK4
      refine Exists.intro (⟨y.name.toArray⟩ : ByteArray) (And.intro (cellB mo.blk rfl) ?_)
      refine call_ (rwutf_ok base ⟨A, q, c.pool⟩ h vo to y.name wo mo.kr.ri hO (by omega)) ?_
      rintro e wp ⟨rfl, vp, tp, kp, qp⟩
      refine ⟨_, rfl, ?_⟩
      exact hK4 (vp, tp) _ _ ⟨rfl, rfl, rfl, rfl, trivial⟩ ⟨mo.act kp, qp⟩
    rintro ⟨vp, tp⟩ wp frp ⟨mp, qp⟩
    dsimp only at mp qp
    have pp := qp.1
    refine seq_cut (σ := Value × WT) (fun _ => [(1, .pointer (some ⟨M, 0, none⟩)), (4, .pointer (some ⟨h, 0, none⟩)), (7, zi (i : Int)), (8, .pointer (some ⟨E, 0, none⟩))]) (fun s w' => Mm w1 base ⟨A, q, c.pool⟩ h v0 E y Ab cb Ah ch Am2 cm2 w' s.1 s.2 ∧ Wri (utfT c.pool) 2 tp y.typ s.2) ?_ ?_
    rotate_left
    · intro K4 hK4
      refine Exists.intro (⟨y.typ.toArray⟩ : ByteArray) (And.intro (cellB mp.blk rfl) ?_)
      refine call_ (rwutf_ok base ⟨A, q, c.pool⟩ h vp tp y.typ wp mp.kr.ri hO (by omega)) ?_
      rintro e wq ⟨rfl, vq, tq, kq, qq⟩
      refine ⟨_, rfl, ?_⟩
      exact hK4 (vq, tq) _ _ ⟨rfl, rfl, rfl, rfl, trivial⟩ ⟨mp.act kq, qq⟩
    rintro ⟨vq, tq⟩ wq frq ⟨mq, qq⟩
    dsimp only at mq qq
    have pq := qq.1
    refine seq_cut (σ := Value × WT) (fun _ => [(1, .pointer (some ⟨M, 0, none⟩)), (4, .pointer (some ⟨h, 0, none⟩)), (7, zi (i : Int)), (8, .pointer (some ⟨E, 0, none⟩))]) (fun s w' => Mm w1 base ⟨A, q, c.pool⟩ h v0 E y Ab cb Ah ch Am2 cm2 w' s.1 s.2 ∧ Wri n2 2 tq 1 s.2) ?_ ?_
    rotate_left
    · intro K4 hK4
      refine call_ (ruL_ok base ⟨A, q, c.pool⟩ h vq tq 2 [1] 1 wq mq.kr.ri rfl (by simp) (by simp; omega)) ?_
      rintro e wr ⟨rfl, vr, kr⟩
      refine ⟨_, rfl, ?_⟩
      exact hK4 (vr, _) _ _ ⟨rfl, rfl, rfl, rfl, trivial⟩ ⟨mq.act kr, Wri.n2⟩
    rintro ⟨vr, tr⟩ wr frr ⟨mr, qr⟩
    dsimp only at mr qr
    have pr := qr.1
    refine seq_cut (σ := Value × WT) (fun _ => [(1, .pointer (some ⟨M, 0, none⟩)), (4, .pointer (some ⟨h, 0, none⟩)), (7, zi (i : Int)), (8, .pointer (some ⟨E, 0, none⟩))]) (fun s w' => Mm w1 base ⟨A, q, c.pool⟩ h v0 E y Ab cb Ah ch Am2 cm2 w' s.1 s.2 ∧ Wri (utfT c.pool) 2 tr codeS s.2) ?_ ?_
    rotate_left
    · intro K4 hK4
      refine call_ (rwutf_ok base ⟨A, q, c.pool⟩ h vr tr codeS wr mr.kr.ri hO (by omega)) ?_
      rintro e ws ⟨rfl, vs, ts, ks, qs⟩
      refine ⟨_, rfl, ?_⟩
      exact hK4 (vs, ts) _ _ ⟨rfl, rfl, rfl, rfl, trivial⟩ ⟨mr.act ks, qs⟩
    rintro ⟨vs, ts⟩ ws frs ⟨ms, qs⟩
    dsimp only at ms qs
    have ps := qs.1
    -- its code
    have hMs := ms.kr.blk hM1 hMn
    obtain ⟨z, hz⟩ : ∃ z, z = ws.heap.size := ⟨_, rfl⟩
    refine seq_cut (σ := Unit) (fun _ => [(1, .pointer (some ⟨M, 0, none⟩)), (4, .pointer (some ⟨h, 0, none⟩)), (7, zi (i : Int)), (8, .pointer (some ⟨E, 0, none⟩)), (9, .pointer (some ⟨z, 0, none⟩))]) (fun _ w' => New ws w' ∧ Nest w1 base ⟨A, q, c.pool⟩ h v0 w' vs ts z (.slice none 0 0) ([], false)) ?_ ?_
    rotate_left
    · intro K4 hK4
      refine Exists.intro A (Exists.intro c.pool.length (Exists.intro q (And.intro (cellB hMs rfl) ?_)))
      have nn := New.alloc ws (.cells #[.slice A c.pool.length q, .slice none 0 0, .bool false] 100)
      have hbn := heap_alloc_new ws (.cells #[.slice A c.pool.length q, .slice none 0 0, .bool false] 100)
      have nest := Nest.start ms.kr hb1 nn rfl hbn
      rw [hz] at hK4
      exact hK4 () _ _ ⟨rfl, rfl, rfl, rfl, rfl, trivial⟩ ⟨nn, nest⟩
    rintro _ wt frt ⟨nt, nest⟩
    have hEt := nt.blk ms.blk
    have hcod : codR wt (RHb z (.slice none 0 0)) [zi y.code.stack, zi y.code.locals, .slice Ab y.code.bytes.length cb, .slice Ah y.code.hands.length ch, .slice Am2 y.code.maps.length cm2] y.code := by
      have hn0 := nt.mod.mono (S' := fun q => RHb h v0 q ∨ w1.heap.size ≤ q) fun _ _ e => False.elim e
      exact ⟨_, _, _, rfl, LRep.weak u8Ok (LRep.mod u8Ok (by decide) ms.l1 hn0) fun q _ e => .inr (nest.at_ q e), LRep.weak hndOk (LRep.mod hndOk (by decide) ms.l2 hn0) fun q _ e => .inr (nest.at_ q e), LRep.weak mpOk (LRep.mod mpOk (by decide) ms.l3 hn0) fun q _ e => .inr (nest.at_ q e)⟩
    refine seq_cut (σ := Value × WT) (fun _ => [(1, .pointer (some ⟨M, 0, none⟩)), (4, .pointer (some ⟨h, 0, none⟩)), (7, zi (i : Int)), (9, .pointer (some ⟨z, 0, none⟩))]) (fun s w' => Nest w1 base ⟨A, q, c.pool⟩ h v0 w' vs ts z s.1 s.2 ∧ Wri (codT c.pool) (cCod y.code) ([], false) y.code s.2) ?_ ?_
    rotate_left
    · intro K4 hK4
      refine loadN_row (vs := [zi y.code.stack, zi y.code.locals, .slice Ab y.code.bytes.length cb, .slice Ah y.code.hands.length ch, .slice Am2 y.code.maps.length cm2]) (fun j u hu => rowM hEt j u hu) rfl ?_
      refine call_ (refcode_ok base ⟨A, q, c.pool⟩ z (.slice none 0 0) ([], false) [zi y.code.stack, zi y.code.locals, .slice Ab y.code.bytes.length cb, .slice Ah y.code.hands.length ch, .slice Am2 y.code.maps.length cm2] y.code wt nest.inn hO hcod hic (by simp; omega)) ?_
      rintro e wu ⟨rfl, vu, tu, ku, qu⟩
      refine ⟨_, rfl, ?_⟩
      exact hK4 (vu, tu) _ _ ⟨rfl, rfl, rfl, rfl, trivial⟩ ⟨nest.act ku, qu⟩
    rintro ⟨vu, tu⟩ wu fru ⟨nu, qu⟩
    dsimp only at nu qu
    have pu := qu.1
    simp only [List.length_nil] at pu
    refine seq_cut (σ := Unit) (fun _ => [(1, .pointer (some ⟨M, 0, none⟩)), (4, .pointer (some ⟨h, 0, none⟩)), (7, zi (i : Int)), (9, .pointer (some ⟨z, 0, none⟩))]) (fun _ w' => Nest w1 base ⟨A, q, c.pool⟩ h v0 w' vs (ts.1, ts.2 || tu.2) z vu tu) ?_ ?_
    rotate_left
    · intro K4 hK4
      refine Exists.intro tu.2 (And.intro (cellB nu.inn.blk rfl) ?_)
      refine call_ (rmust_ok base ⟨A, q, c.pool⟩ h vs ts (!tu.2) wu nu.out.ri) ?_
      rintro e wc ⟨rfl, kc⟩
      refine ⟨_, rfl, ?_⟩
      rw [Bool.not_not] at kc
      exact hK4 () _ _ ⟨rfl, rfl, rfl, rfl, trivial⟩ (nu.must kc)
    rintro _ wc frc nc
    refine seq_cut (σ := Value) (fun _ => [(1, .pointer (some ⟨M, 0, none⟩)), (4, .pointer (some ⟨h, 0, none⟩)), (7, zi (i : Int)), (9, .pointer (some ⟨z, 0, none⟩))]) (fun v' w' => Nest w1 base ⟨A, q, c.pool⟩ h v0 w' v' (ts.1 ++ enc 4 (tu.1.length : Int), ts.2 || tu.2) z vu tu) ?_ ?_
    rotate_left
    · intro K4 hK4
      obtain ⟨A2, c2, rfl, _⟩ := own_slice nc.inn.own
      refine Exists.intro A2 (Exists.intro tu.1.length (Exists.intro c2 (And.intro (cellB nc.inn.blk rfl) ?_)))
      refine call_ (ruL_ok base ⟨A, q, c.pool⟩ h vs (ts.1, ts.2 || tu.2) 4 [(tu.1.length : Int)] 1 wc nc.out.ri rfl (by simp; omega) (by simp; omega)) ?_
      rintro e wd ⟨rfl, vd, kd⟩
      refine ⟨_, rfl, ?_⟩
      rw [noteU4 (by omega)] at kd
      exact hK4 vd _ _ ⟨rfl, rfl, rfl, rfl, trivial⟩ (nc.must kd)
    rintro vd wd frd nd0
    obtain ⟨td, htd⟩ : ∃ td, td = (ts.1 ++ enc 4 (tu.1.length : Int), ts.2 || tu.2) := ⟨_, rfl⟩
    rw [← htd] at nd0
    have hld : td.1.length = ts.1.length + 4 := by rw [htd]; simp only [List.length_append, enc_length]
    obtain ⟨A4, c4, rfl, _⟩ := own_slice nd0.out.ri.own
    obtain ⟨A2, c2, rfl, _⟩ := own_slice nd0.inn.own
    refine draw_ (w := wd) ok (.q 0 (.q 1 (.q 2 (.q 3 (.q 4 (.q 5 (.q 6 (.q 7 (.q 8 (.e 9 (.q 10 (.q 11 (.e 12 .done))))))))))))) [12] (fun w'' : World => w''.heap[h]? = some (.cells #[.slice A c.pool.length q, .slice A4 td.1.length c4, .bool td.2] 100 (0, 0)) ∧ w''.heap[z]? = some (.cells #[.slice A c.pool.length q, .slice A2 tu.1.length c2, .bool tu.2] 100 (0, 0))) (by kernel_rfl) (by kernel_rfl) (by kernel_rfl) (by kernel_rfl) (by kernel_rfl) ⟨(New.drew wd).blk nd0.out.ri.blk, (New.drew wd).blk nd0.inn.blk⟩ ?_
    refine Exists.intro A4 (Exists.intro td.1.length (Exists.intro c4 (And.intro (fun w'' hw => cellB hw.1 rfl) ?_)))
    refine Exists.intro A2 (Exists.intro tu.1.length (Exists.intro c2 (And.intro (fun w'' hw => cellB hw.2 rfl) ?_)))
    have nw := New.drew wd
    have nnd := nd0.new nw
    obtain ⟨_, _, he, _, _, row2, _⟩ := own_slice nnd.inn.own
    cases he
    refine eff_app rfl rfl (fun _ _ => rfl) ?_
    refine append2_ ok rfl rfl rfl rfl nnd.out.ri.own rfl rfl row2 (by rw [bvs_length]; exact (Nat.mul_one _).symm) (bvs_one _) (by decide) rfl (by show (td.1.length + tu.1.length) * 1 ≤ _; omega) (by omega) nnd.out.ri.bw ?_
    intro A7 c7 we own7 mod7 st7
    have hb7 := mod7.blk nnd.out.ri.blk (fun e => nnd.out.ri.off e.symm)
    have hz7 := mod7.blk nnd.inn.blk (fun e => nnd.sep z (.inr rfl) (.inl e))
    refine Exists.intro (fun w'' : World => w''.heap[h]? = some (.cells #[.slice A c.pool.length q, .slice A4 td.1.length c4, .bool td.2] 100 (0, 0)) ∧ w''.heap[z]? = some (.cells #[.slice A c.pool.length q, .slice A2 tu.1.length c2, .bool tu.2] 100 (0, 0))) ?_
    refine And.intro (fun _ h => h) ?_
    refine And.intro ⟨hb7, hz7⟩ ?_
    refine And.intro ⟨_, cellB hb7 rfl⟩ (And.intro (fzB hb7 _) (force_ ?_))
    refine stK hb7 (show (1 : Nat) < 3 by decide) ?_
    intro wf hb8 m8 s8
    have kf := (nd0.add nw mod7 own7 st7 m8 hb8).1
    have qt := Wri.part (t := ts) qu
    have et : (td.1 ++ tu.1, td.2) = (ts.1 ++ (enc 4 (tu.1.length : Int) ++ tu.1), ts.2 || tu.2) := by rw [htd]; dsimp only; rw [List.append_assoc]
    rw [← et] at qt
    have pt := qt.1
    refine hK3 (_, (td.1 ++ tu.1, td.2)) _ _ ⟨rfl, rfl, rfl, trivial⟩ ⟨kf, ?_⟩
    refine Wri.by_or hb (fun e => ?_) (fun e => ⟨keep_bad qt (keep_bad qs (keep_bad qr (keep_bad qq (keep_bad qp (keep_bad qo (by dsimp only; rw [e]; simp)))))), by dsimp only at pt ⊢; omega⟩)
    have q := qo.seq (qp.seq (qq.seq (qr.seq (qs.seq qt))))
    rw [hzz2 e] at q
    exact Wri.le q (by omega)
  rintro ⟨v10, t10⟩ w10 fr10 ⟨kk10, q10⟩
  dsimp only at kk10 q10
  have p10 := q10.1
  refine seq_cut (σ := Value × WT) (fun _ => [(4, .pointer (some ⟨h, 0, none⟩))]) (fun s w' => Kr w1 base ⟨A, q, c.pool⟩ h v0 w' s.1 s.2 ∧ Wri n2 2 t10 0 s.2) ?_ ?_
  rotate_left
  · intro K hK
    refine call_ (ruL_ok base ⟨A, q, c.pool⟩ h v10 t10 2 [0] 1 w10 kk10.ri rfl (by simp) (by simp; omega)) ?_
    rintro e w11 ⟨rfl, v11, k11⟩
    refine ⟨_, rfl, ?_⟩
    exact hK (v11, _) _ _ ⟨rfl, trivial⟩ ⟨kk10.then k11, Wri.n2⟩
  rintro ⟨v11, t11⟩ w11 fr11 ⟨kk11, q11⟩
  dsimp only at kk11 q11
  have p11 := q11.1
  have hfile := wri_file (Wri.by_ (q2.seq (Wri.assoc (q3.seq (Wri.dseq q4 (q5.seq (q6.seq (q7.seq (q8.seq (q9.seq (q10.seq q11)))))))))))
  have nw := fresh kk11
  refine seq_cut (σ := Unit) (fun _ => [(4, .pointer (some ⟨h, 0, none⟩))]) (fun _ w' => w' = w11 ∧ t11.2 = false) ?_ ?_
  rotate_left
  · intro K hK
    refine Exists.intro t11.2 (And.intro (cellB kk11.ri.blk rfl) ?_)
    refine if_ (fun hbad => ?_) (fun hbad => ?_)
    · exact pr_bad (hfile.1 hbad) nw
    · exact hK () _ _ ⟨rfl, trivial⟩ ⟨rfl, hbad⟩
  rintro _ wy fry ⟨hwy, hgood⟩
  obtain rfl := hwy.symm
  obtain ⟨Az, cz, rfl, h5, h6, rowz, _⟩ := own_slice kk11.ri.own
  refine seq_cut (σ := Unit) (fun _ => [(4, .pointer (some ⟨h, 0, none⟩))]) (fun _ w' => w' = w11 ∧ t11.1.length ≤ 32768) ?_ ?_
  rotate_left
  · intro K hK
    refine Exists.intro Az (Exists.intro t11.1.length (Exists.intro cz (And.intro (cellB kk11.ri.blk rfl) ?_)))
    refine if_p (fun hp => ?_) (fun hp => ?_)
    · replace hp : (32768 : Int) < (t11.1.length : Int) := hp
      exact pr_bad (hfile.2.1 hgood (by omega)) nw
    · replace hp : ¬ (32768 : Int) < (t11.1.length : Int) := hp
      exact hK () _ _ ⟨rfl, trivial⟩ ⟨rfl, by omega⟩
  rintro _ wz frz ⟨hwz, hle⟩
  obtain rfl := hwz.symm
  obtain ⟨he, hbs⟩ := hfile.2.2 hgood hle
  refine Exists.intro Az (Exists.intro t11.1.length (Exists.intro cz (And.intro (cellB kk11.ri.blk rfl) ?_)))
  rw [← hbs] at rowz h5
  exact ⟨Az, cz, by rw [he, hbs]; rfl, rowz, h5, h6, nw⟩

end Go.Proofs.YtdcaafldnbcdkaaDoor.Class

/-! ### KOpen -/
namespace Go.Proofs.YtdcaafldnbcdkaaDoor.Class
open Go Go.Proofs.YtdcaafldnbcdkaaDoor Go.Proofs.YtdcaafldnbcdkaaDoor.Eng Go.Proofs Go.Proofs.YtdcaafldnbcdkaaDoor.Word Go.Proofs.YtdcaafldnbcdkaaDoor.Fmt Go.ChangeShapes Go.WideShapes Go.RowKit
open Go.Proofs.YtdcaafldnbcdkaaDoor.Pool (Ent at_ poolF strV entC EntOk Pl)
set_option maxRecDepth 10000

theorem wf64 {z : Int} (hw : (Lit.int .i64 z).wf = true) : i64 z := by
  simp [Lit.wf, IntKind.min, IntKind.max, IntKind.signed, IntKind.bits] at hw
  unfold i64
  omega
theorem uInt : Tryd.prog.underlying 3 = some (.int .i64) := by kernel_rfl
theorem cellInt : Tryd.prog.cellsOf 3 = 1 := by kernel_rfl
theorem uStr : Tryd.prog.underlying 9 = some .string := by kernel_rfl
theorem cellStr : Tryd.prog.cellsOf 9 = 1 := by kernel_rfl
theorem uU8 : Tryd.prog.underlying 5 = some (.int .u8) := by kernel_rfl
theorem cellU8 : Tryd.prog.cellsOf 5 = 1 := by kernel_rfl
theorem uBys : Tryd.prog.underlying 30 = some (.slice 5) := by kernel_rfl
theorem lBys : Tryd.prog.cellsOf 30 = 1 := by kernel_rfl
theorem uEnts : Tryd.prog.underlying 22 = some (.slice 42) := by kernel_rfl
theorem lEnts : Tryd.prog.cellsOf 22 = 1 := by kernel_rfl
theorem uTys : Tryd.prog.underlying 47 = some (.slice 51) := by kernel_rfl
theorem lTys : Tryd.prog.cellsOf 47 = 1 := by kernel_rfl
theorem uMps : Tryd.prog.underlying 32 = some (.slice 49) := by kernel_rfl
theorem lMps : Tryd.prog.cellsOf 32 = 1 := by kernel_rfl
theorem uHnds : Tryd.prog.underlying 31 = some (.slice 46) := by kernel_rfl
theorem lHnds : Tryd.prog.cellsOf 31 = 1 := by kernel_rfl
theorem uFlds : Tryd.prog.underlying 23 = some (.slice 44) := by kernel_rfl
theorem lFlds : Tryd.prog.cellsOf 23 = 1 := by kernel_rfl
theorem uMths : Tryd.prog.underlying 24 = some (.slice 36) := by kernel_rfl
theorem lMths : Tryd.prog.cellsOf 24 = 1 := by kernel_rfl
theorem cEnt : Tryd.prog.cellsOf 42 = 5 := by kernel_rfl
theorem cType : Tryd.prog.cellsOf 51 = 2 := by kernel_rfl
theorem sType : structOf Tryd.prog 51 = [(3, 0), (9, 1)] := by kernel_rfl
theorem cMap : Tryd.prog.cellsOf 49 = 3 := by kernel_rfl
theorem sMap : structOf Tryd.prog 49 = [(3, 0), (47, 1), (47, 2)] := by kernel_rfl
theorem cHandler : Tryd.prog.cellsOf 46 = 4 := by kernel_rfl
theorem sHandler : structOf Tryd.prog 46 = [(3, 0), (3, 1), (3, 2), (3, 3)] := by kernel_rfl
theorem cCode : Tryd.prog.cellsOf 34 = 5 := by kernel_rfl
theorem sCode : structOf Tryd.prog 34 = [(3, 0), (3, 1), (30, 2), (31, 3), (32, 4)] := by kernel_rfl
theorem cField : Tryd.prog.cellsOf 44 = 3 := by kernel_rfl
theorem sField : structOf Tryd.prog 44 = [(3, 0), (9, 1), (9, 2)] := by kernel_rfl
theorem cMethod : Tryd.prog.cellsOf 36 = 8 := by kernel_rfl
theorem sMethod : structOf Tryd.prog 36 = [(3, 0), (9, 1), (9, 2), (34, 3)] := by kernel_rfl
theorem cClass : Tryd.prog.cellsOf 26 = 5 := by kernel_rfl
theorem sClass : structOf Tryd.prog 26 = [(22, 0), (9, 1), (9, 2), (23, 3), (24, 4)] := by kernel_rfl
abbrev S0 (W : World) : Nat → Prop := fun b => W.heap.size ≤ b
section
variable {H : Type} {enc : TypeId × Value → H} {W : World} {fuel : Nat} {cs : List Value} {x : DataW H × List MemPlace}
/-- What a list's memory is, if one knows what its members' is. -/
theorem list_of {α : Type} {R : RepT α} {sz : Nat} {fine : α → Prop} {tl te : TypeId} (hR : RepOk R sz) (hsz : 0 < sz) (hu : Tryd.prog.underlying tl = some (.slice te)) (hc : Tryd.prog.cellsOf te = sz) (hb : 8 ≤ Tryd.prog.bytesOf te)
    (el : ∀ (fuel : Nat) (cs : List Value) (x : DataW H × List MemPlace), DataW.trod enc Tryd.prog W 0 (fun _ => true) true fuel te cs = some x → Sz Tryd.prog te x.1 → ∃ y : α, R W (S0 W) cs y ∧ fine y)
    (h : DataW.trod enc Tryd.prog W 0 (fun _ => true) true fuel tl cs = some x) (hs : Sz Tryd.prog tl x.1) : ∃ v xs, cs = [v] ∧ LRep R W (S0 W) v xs ∧ ∀ y ∈ xs, fine y := by
  obtain ⟨A, n, c, css, m, hcs, hn, hcap, hm, hr, hw, he⟩ := trod_elemsW hu h
  rw [hc] at hr
  have each : ∀ (i : Nat) cs, css[i]? = some cs → ∃ y : α, R W (S0 W) cs y ∧ fine y := by
    intro i cs hi
    obtain ⟨y, hy, hsy⟩ := he i cs hi
    exact el _ _ _ hy (hsy hs)
  obtain ⟨l, hlen, hl⟩ := each_of each
  have hw' := hw hs
  have hrb : reachBytes ≤ 140737488355328 := by decide
  have hn8 : n * 8 ≤ n * Tryd.prog.bytesOf te := Nat.mul_le_mul_left n hb
  have hmap : (css.zip l).map (·.1) = css := by rw [List.map_fst_zip]; omega
  have hmap2 : (css.zip l).map (·.2) = l := by rw [List.map_snd_zip]; omega
  refine ⟨_, l, hcs, ⟨A, c, css.zip l, by rw [hlen, ← hn], hmap2, by omega, hm, by omega, ?_, ?_, ?_⟩, ?_⟩
  · show Row W A ((css.zip l).map (·.1)).flatten
    rw [hmap]
    exact row_of_rows2 hr
  · intro a ha hne
    have hlt : a.block < W.heap.size := by
      refine (row_of_rows2 hr).lt ?_ ha
      intro e
      have h0 : 0 < css.length := by
        refine Nat.pos_of_ne_zero fun h0 => hne ?_
        rw [List.length_eq_zero_iff.1 h0]
        rfl
      have h1 := hr 0 _ (List.getElem?_eq_getElem h0)
      have h2 : css[0] = [] := by
        have := List.flatten_eq_nil_iff.1 e
        exact this _ (List.getElem_mem h0)
      rw [h2] at h1
      simp at h1
      omega
    exact ⟨hlt, by show ¬ W.heap.size ≤ a.block; omega⟩
  · intro t ht
    obtain ⟨i, hi, rfl⟩ := List.getElem_of_mem ht
    have hi1 : i < css.length := by rw [List.length_zip] at hi; omega
    have hi2 : i < l.length := by omega
    obtain ⟨y, hy, hok⟩ := hl i _ (List.getElem?_eq_getElem hi1)
    rw [List.getElem?_eq_getElem hi2] at hy
    cases hy
    rw [List.getElem_zip]
    exact hok.1
  · intro y hy
    obtain ⟨i, hi, rfl⟩ := List.getElem_of_mem hy
    have hi1 : i < css.length := by omega
    obtain ⟨y', hy', hok⟩ := hl i _ (List.getElem?_eq_getElem hi1)
    rw [List.getElem?_eq_getElem hi] at hy'
    cases hy'
    exact hok.2
theorem l2 {cs : List Value} {a b : Value} (hl : cs.length = 2) (h0 : cs[0]? = some a) (h1 : cs[1]? = some b) : cs = [a, b] := by
  match cs, hl with
  | [x0, x1], _ => simp_all
theorem l3 {cs : List Value} {a b c : Value} (hl : cs.length = 3) (h0 : cs[0]? = some a) (h1 : cs[1]? = some b) (h2 : cs[2]? = some c) : cs = [a, b, c] := by
  match cs, hl with
  | [x0, x1, x2], _ => simp_all
theorem l4 {cs : List Value} {a b c d : Value} (hl : cs.length = 4) (h0 : cs[0]? = some a) (h1 : cs[1]? = some b) (h2 : cs[2]? = some c) (h3 : cs[3]? = some d) : cs = [a, b, c, d] := by
  match cs, hl with
  | [x0, x1, x2, x3], _ => simp_all
theorem l5 {cs : List Value} {a b c d e : Value} (hl : cs.length = 5) (h0 : cs[0]? = some a) (h1 : cs[1]? = some b) (h2 : cs[2]? = some c) (h3 : cs[3]? = some d) (h4 : cs[4]? = some e) : cs = [a, b, c, d, e] := by
  match cs, hl with
  | [x0, x1, x2, x3, x4], _ => simp_all
theorem l8 {cs : List Value} {a b c d e f g h : Value} (hl : cs.length = 8) (h0 : cs[0]? = some a) (h1 : cs[1]? = some b) (h2 : cs[2]? = some c) (h3 : cs[3]? = some d) (h4 : cs[4]? = some e) (h5 : cs[5]? = some f) (h6 : cs[6]? = some g) (h7 : cs[7]? = some h) : cs = [a, b, c, d, e, f, g, h] := by
  match cs, hl with
  | [x0, x1, x2, x3, x4, x5, x6, x7], _ => simp_all
theorem str_at {b : ByteArray} : Value.string b = strV b.data.toList := (Pool.str_back b).symm
def noFine {α : Type} (_ : α) : Prop := True
theorem ent_of' (h : DataW.trod enc Tryd.prog W 0 (fun _ => true) true fuel 42 cs = some x) (_ : Sz Tryd.prog 42 x.1) : ∃ y : Ent, entR W (S0 W) cs y ∧ EntOk y := by
  obtain ⟨r, h1, h2⟩ := Pool.ent_of h
  exact ⟨r, h1, h2⟩
theorem ents_of (h : DataW.trod enc Tryd.prog W 0 (fun _ => true) true fuel 22 cs = some x) (hs : Sz Tryd.prog 22 x.1) : ∃ v xs, cs = [v] ∧ LRep entR W (S0 W) v xs ∧ ∀ y ∈ xs, EntOk y :=
  list_of entOk (by decide) uEnts cEnt (by rw [show Tryd.prog.bytesOf 42 = 48 by kernel_rfl]; decide) (fun _ _ _ h hs => ent_of' h hs) h hs
theorem ty_of (h : DataW.trod enc Tryd.prog W 0 (fun _ => true) true fuel 51 cs = some x) (hs : Sz Tryd.prog 51 x.1) : ∃ y : Ty, tyR W (S0 W) cs y ∧ noFine y := by
  obtain ⟨hl, n', hf'⟩ := trod_fieldsW sType (by simp) h
  rw [cType] at hl
  obtain ⟨_, y0, s0⟩ := hf' 0 _ _ rfl
  obtain ⟨z0, g0, b0⟩ := field_int uInt cellInt y0
  obtain ⟨_, y1, s1⟩ := hf' 1 _ _ rfl
  obtain ⟨z1, g1, b1⟩ := field_string uStr cellStr y1
  rw [str_at] at g1
  exact ⟨⟨z0, z1.data.toList⟩, l2 hl g0 g1, trivial⟩
theorem tys_of (h : DataW.trod enc Tryd.prog W 0 (fun _ => true) true fuel 47 cs = some x) (hs : Sz Tryd.prog 47 x.1) : ∃ v xs, cs = [v] ∧ LRep tyR W (S0 W) v xs ∧ ∀ y ∈ xs, noFine y :=
  list_of tyOk (by decide) uTys cType (by rw [show Tryd.prog.bytesOf 51 = 24 by kernel_rfl]; decide) (fun _ _ _ h hs => ty_of h hs) h hs
theorem mp_of (h : DataW.trod enc Tryd.prog W 0 (fun _ => true) true fuel 49 cs = some x) (hs : Sz Tryd.prog 49 x.1) : ∃ y : Mp, mpR W (S0 W) cs y ∧ noFine y := by
  obtain ⟨hl, n', hf'⟩ := trod_fieldsW sMap (by simp) h
  rw [cMap] at hl
  obtain ⟨_, y0, s0⟩ := hf' 0 _ _ rfl
  obtain ⟨z0, g0, b0⟩ := field_int uInt cellInt y0
  obtain ⟨_, y1, s1⟩ := hf' 1 _ _ rfl
  obtain ⟨v1, k1, g1, hv1, hf1⟩ := tys_of y1 (s1 hs)
  rw [lTys] at g1
  obtain ⟨_, y2, s2⟩ := hf' 2 _ _ rfl
  obtain ⟨v2, k2, g2, hv2, hf2⟩ := tys_of y2 (s2 hs)
  rw [lTys] at g2
  exact ⟨⟨z0, k1, k2⟩, ⟨v1, v2, l3 hl g0 (cell_of_cut g1) (cell_of_cut g2), hv1, hv2⟩, trivial⟩
theorem mps_of (h : DataW.trod enc Tryd.prog W 0 (fun _ => true) true fuel 32 cs = some x) (hs : Sz Tryd.prog 32 x.1) : ∃ v xs, cs = [v] ∧ LRep mpR W (S0 W) v xs ∧ ∀ y ∈ xs, noFine y :=
  list_of mpOk (by decide) uMps cMap (by rw [show Tryd.prog.bytesOf 49 = 56 by kernel_rfl]; decide) (fun _ _ _ h hs => mp_of h hs) h hs
theorem hnd_of (h : DataW.trod enc Tryd.prog W 0 (fun _ => true) true fuel 46 cs = some x) (hs : Sz Tryd.prog 46 x.1) : ∃ y : Hnd, hndR W (S0 W) cs y ∧ noFine y := by
  obtain ⟨hl, n', hf'⟩ := trod_fieldsW sHandler (by simp) h
  rw [cHandler] at hl
  obtain ⟨_, y0, s0⟩ := hf' 0 _ _ rfl
  obtain ⟨z0, g0, b0⟩ := field_int uInt cellInt y0
  obtain ⟨_, y1, s1⟩ := hf' 1 _ _ rfl
  obtain ⟨z1, g1, b1⟩ := field_int uInt cellInt y1
  obtain ⟨_, y2, s2⟩ := hf' 2 _ _ rfl
  obtain ⟨z2, g2, b2⟩ := field_int uInt cellInt y2
  obtain ⟨_, y3, s3⟩ := hf' 3 _ _ rfl
  obtain ⟨z3, g3, b3⟩ := field_int uInt cellInt y3
  exact ⟨⟨z0, z1, z2, z3⟩, l4 hl g0 g1 g2 g3, trivial⟩
theorem hnds_of (h : DataW.trod enc Tryd.prog W 0 (fun _ => true) true fuel 31 cs = some x) (hs : Sz Tryd.prog 31 x.1) : ∃ v xs, cs = [v] ∧ LRep hndR W (S0 W) v xs ∧ ∀ y ∈ xs, noFine y :=
  list_of hndOk (by decide) uHnds cHandler (by rw [show Tryd.prog.bytesOf 46 = 32 by kernel_rfl]; decide) (fun _ _ _ h hs => hnd_of h hs) h hs
theorem bys_of (h : DataW.trod enc Tryd.prog W 0 (fun _ => true) true fuel 30 cs = some x) (hs : Sz Tryd.prog 30 x.1) : ∃ v xs, cs = [v] ∧ LRep u8R W (S0 W) v xs ∧ ∀ y ∈ xs, noFine y := by
  obtain ⟨A, n, c, css, m, hcs, hn, hcap, hm, hr, hw, he⟩ := trod_elemsW uBys h
  rw [cellU8] at hr
  have each : ∀ (i : Nat) cs, css[i]? = some cs → ∃ y : UInt8, u8R W (S0 W) cs y := by
    intro i cs hi
    obtain ⟨y, hy, _⟩ := he i cs hi
    obtain ⟨k, h1, _, hw⟩ := DataW.trod_int uU8 hy
    simp [Lit.wf, IntKind.min, IntKind.max, IntKind.signed, IntKind.bits] at hw
    refine ⟨UInt8.ofNat k.toNat, ?_⟩
    show cs = _
    rw [h1]
    have e : (((UInt8.ofNat k.toNat).toNat : Nat) : Int) = k := by
      show ((k.toNat % 256 : Nat) : Int) = k
      omega
    rw [e]
  obtain ⟨l, hlen, hl⟩ := each_of each
  have hw' := hw hs
  have hb : Tryd.prog.bytesOf 5 = 1 := by kernel_rfl
  rw [hb] at hw'
  have hrb : reachBytes ≤ 140737488355328 := by decide
  have hmap : (css.zip l).map (·.1) = css := by rw [List.map_fst_zip]; omega
  have hmap2 : (css.zip l).map (·.2) = l := by rw [List.map_snd_zip]; omega
  refine ⟨_, l, hcs, ⟨A, c, css.zip l, by rw [hlen, ← hn], hmap2, by omega, hm, by omega, ?_, ?_, ?_⟩, fun _ _ => trivial⟩
  · show Row W A ((css.zip l).map (·.1)).flatten
    rw [hmap]
    exact row_of_rows2 hr
  · intro a ha hne
    have hlt : a.block < W.heap.size := by
      refine (row_of_rows2 hr).lt ?_ ha
      intro e
      have h0 : 0 < css.length := by
        refine Nat.pos_of_ne_zero fun h0 => hne ?_
        rw [List.length_eq_zero_iff.1 h0]
        rfl
      have h1 := hr 0 _ (List.getElem?_eq_getElem h0)
      have h2 : css[0] = [] := by
        have := List.flatten_eq_nil_iff.1 e
        exact this _ (List.getElem_mem h0)
      rw [h2] at h1
      simp at h1
    exact ⟨hlt, by show ¬ W.heap.size ≤ a.block; omega⟩
  · intro t ht
    obtain ⟨i, hi, rfl⟩ := List.getElem_of_mem ht
    have hi1 : i < css.length := by rw [List.length_zip] at hi; omega
    have hi2 : i < l.length := by omega
    obtain ⟨y, hy, hok⟩ := hl i _ (List.getElem?_eq_getElem hi1)
    rw [List.getElem?_eq_getElem hi2] at hy
    cases hy
    rw [List.getElem_zip]
    exact hok
theorem cod_of (h : DataW.trod enc Tryd.prog W 0 (fun _ => true) true fuel 34 cs = some x) (hs : Sz Tryd.prog 34 x.1) : ∃ y : Cod, codR W (S0 W) cs y ∧ noFine y := by
  obtain ⟨hl, n', hf'⟩ := trod_fieldsW sCode (by simp) h
  rw [cCode] at hl
  obtain ⟨_, y0, s0⟩ := hf' 0 _ _ rfl
  obtain ⟨z0, g0, b0⟩ := field_int uInt cellInt y0
  obtain ⟨_, y1, s1⟩ := hf' 1 _ _ rfl
  obtain ⟨z1, g1, b1⟩ := field_int uInt cellInt y1
  obtain ⟨_, y2, s2⟩ := hf' 2 _ _ rfl
  obtain ⟨v2, k2, g2, hv2, hf2⟩ := bys_of y2 (s2 hs)
  rw [lBys] at g2
  obtain ⟨_, y3, s3⟩ := hf' 3 _ _ rfl
  obtain ⟨v3, k3, g3, hv3, hf3⟩ := hnds_of y3 (s3 hs)
  rw [lHnds] at g3
  obtain ⟨_, y4, s4⟩ := hf' 4 _ _ rfl
  obtain ⟨v4, k4, g4, hv4, hf4⟩ := mps_of y4 (s4 hs)
  rw [lMps] at g4
  exact ⟨⟨z0, z1, k2, k3, k4⟩, ⟨v2, v3, v4, l5 hl g0 g1 (cell_of_cut g2) (cell_of_cut g3) (cell_of_cut g4), hv2, hv3, hv4⟩, trivial⟩
theorem fld_of (h : DataW.trod enc Tryd.prog W 0 (fun _ => true) true fuel 44 cs = some x) (hs : Sz Tryd.prog 44 x.1) : ∃ y : Fld, fldR W (S0 W) cs y ∧ (fun f : Fld => i64 f.acc) y := by
  obtain ⟨hl, n', hf'⟩ := trod_fieldsW sField (by simp) h
  rw [cField] at hl
  obtain ⟨_, y0, s0⟩ := hf' 0 _ _ rfl
  obtain ⟨z0, g0, b0⟩ := field_int uInt cellInt y0
  obtain ⟨_, y1, s1⟩ := hf' 1 _ _ rfl
  obtain ⟨z1, g1, b1⟩ := field_string uStr cellStr y1
  rw [str_at] at g1
  obtain ⟨_, y2, s2⟩ := hf' 2 _ _ rfl
  obtain ⟨z2, g2, b2⟩ := field_string uStr cellStr y2
  rw [str_at] at g2
  exact ⟨⟨z0, z1.data.toList, z2.data.toList⟩, l3 hl g0 g1 g2, wf64 b0⟩
theorem flds_of (h : DataW.trod enc Tryd.prog W 0 (fun _ => true) true fuel 23 cs = some x) (hs : Sz Tryd.prog 23 x.1) : ∃ v xs, cs = [v] ∧ LRep fldR W (S0 W) v xs ∧ ∀ y ∈ xs, (fun f : Fld => i64 f.acc) y :=
  list_of fldOk (by decide) uFlds cField (by rw [show Tryd.prog.bytesOf 44 = 40 by kernel_rfl]; decide) (fun _ _ _ h hs => fld_of h hs) h hs
theorem l8m {cs : List Value} {a b c d e f g h : Value} (hl : cs.length = 8) (h0 : cs[0]? = some a) (h1 : cs[1]? = some b) (h2 : cs[2]? = some c) (h3 : (cs.drop 3).take 5 = [d, e, f, g, h]) : cs = [a, b, c, d, e, f, g, h] := by
  match cs, hl with
  | [x0, x1, x2, x3, x4, x5, x6, x7], _ => simp_all
theorem mth_of (h : DataW.trod enc Tryd.prog W 0 (fun _ => true) true fuel 36 cs = some x) (hs : Sz Tryd.prog 36 x.1) : ∃ y : Mth, mthR W (S0 W) cs y ∧ (fun m : Mth => i64 m.acc) y := by
  obtain ⟨hl, n', hf'⟩ := trod_fieldsW sMethod (by simp) h
  rw [cMethod] at hl
  obtain ⟨_, y0, s0⟩ := hf' 0 _ _ rfl
  obtain ⟨_, y1, s1⟩ := hf' 1 _ _ rfl
  obtain ⟨_, y2, s2⟩ := hf' 2 _ _ rfl
  obtain ⟨_, y3, s3⟩ := hf' 3 _ _ rfl
  obtain ⟨z0, g0, b0⟩ := field_int uInt cellInt y0
  obtain ⟨z1, g1, b1⟩ := field_string uStr cellStr y1
  obtain ⟨z2, g2, b2⟩ := field_string uStr cellStr y2
  rw [str_at] at g1 g2
  obtain ⟨c, ⟨v1, v2, v3, e, hv1, hv2, hv3⟩, _⟩ := cod_of y3 (s3 hs)
  rw [cCode] at e
  exact ⟨⟨z0, z1.data.toList, z2.data.toList, c⟩, ⟨v1, v2, v3, l8m hl g0 g1 g2 e, hv1, hv2, hv3⟩, wf64 b0⟩
theorem mths_of (h : DataW.trod enc Tryd.prog W 0 (fun _ => true) true fuel 24 cs = some x) (hs : Sz Tryd.prog 24 x.1) : ∃ v xs, cs = [v] ∧ LRep mthR W (S0 W) v xs ∧ ∀ y ∈ xs, (fun m : Mth => i64 m.acc) y :=
  list_of mthOk (by decide) uMths cMethod (by rw [show Tryd.prog.bytesOf 36 = 128 by kernel_rfl]; decide) (fun _ _ _ h hs => mth_of h hs) h hs
theorem cls_of (h : DataW.trod enc Tryd.prog W 0 (fun _ => true) true fuel 26 cs = some x) (hs : Sz Tryd.prog 26 x.1) : ∃ y : Cls, clsR W (S0 W) cs y ∧ fCls y := by
  obtain ⟨hl, n', hf'⟩ := trod_fieldsW sClass (by simp) h
  rw [cClass] at hl
  obtain ⟨_, y0, s0⟩ := hf' 0 _ _ rfl
  obtain ⟨v0, k0, g0, hv0, hf0⟩ := ents_of y0 (s0 hs)
  rw [lEnts] at g0
  obtain ⟨_, y1, s1⟩ := hf' 1 _ _ rfl
  obtain ⟨z1, g1, b1⟩ := field_string uStr cellStr y1
  rw [str_at] at g1
  obtain ⟨_, y2, s2⟩ := hf' 2 _ _ rfl
  obtain ⟨z2, g2, b2⟩ := field_string uStr cellStr y2
  rw [str_at] at g2
  obtain ⟨_, y3, s3⟩ := hf' 3 _ _ rfl
  obtain ⟨v3, k3, g3, hv3, hf3⟩ := flds_of y3 (s3 hs)
  rw [lFlds] at g3
  obtain ⟨_, y4, s4⟩ := hf' 4 _ _ rfl
  obtain ⟨v4, k4, g4, hv4, hf4⟩ := mths_of y4 (s4 hs)
  rw [lMths] at g4
  exact ⟨⟨k0, z1.data.toList, z2.data.toList, k3, k4⟩, ⟨v0, v3, v4, l5 hl (cell_of_cut g0) g1 g2 (cell_of_cut g3) (cell_of_cut g4), hv0, hv3, hv4⟩, hf0, hf3, hf4⟩
end
theorem open_cls {H : Type} {enc : TypeId × Value → H} {r : Reach} {b0 : Nat} {v : Value} {d : DataW H} {ps : List MemPlace} {W : World}
    (hval : Value.okWide Tryd.prog W r b0 26 v) (hd : DataW.Trod enc Tryd.prog W 0 (fun _ => true) true 26 v d ps) (hsz : Sz Tryd.prog 26 d) :
    ∃ cs m, v = .agg (List.toArray cs) ∧ clsR W (S0 W) cs m ∧ fCls m := by
  obtain ⟨cs, rfl⟩ := okWide_agg (show isStructB Tryd.prog 26 = true by kernel_rfl) hval
  obtain ⟨fuel, hf⟩ := hd
  obtain ⟨m, hm, ho⟩ := cls_of hf hsz
  have e1 : (Value.agg cs).cells = cs := rfl
  rw [e1] at hm
  exact ⟨cs.toList, m, rfl, hm, ho⟩
theorem open_str {H : Type} {enc : TypeId × Value → H} {r : Reach} {b0 : Nat} {v : Value} {d : DataW H} {ps : List MemPlace} {W : World}
    (hval : Value.okWide Tryd.prog W r b0 9 v) (hd : DataW.Trod enc Tryd.prog W 0 (fun _ => true) true 9 v d ps) : ∃ s : List UInt8, v = strV s := by
  obtain ⟨s, rfl⟩ := okWide_string uStr hval
  exact ⟨s.data.toList, str_at⟩
theorem Kt.lt {w : World} (h : Kt w) : 0 < w.heap.size := World.block_lt_of_cell? w _ (h 0 (by decide) (by decide))
end Go.Proofs.YtdcaafldnbcdkaaDoor.Class

/-! ### KOpen2 -/
namespace Go.Proofs.YtdcaafldnbcdkaaDoor.Class
open Go Go.Proofs.YtdcaafldnbcdkaaDoor Go.Proofs.YtdcaafldnbcdkaaDoor.Eng Go.Proofs Go.Proofs.YtdcaafldnbcdkaaDoor.Word Go.Proofs.YtdcaafldnbcdkaaDoor.Fmt Go.ChangeShapes Go.WideShapes Go.RowKit
open Go.Proofs.YtdcaafldnbcdkaaDoor.Pool (Ent at_ poolF strV entC EntOk Pl)
set_option maxRecDepth 10000

def fMth (m : Mth) : Prop := i64 m.acc ∧ iCod m.code
section
variable {H : Type} {enc : TypeId × Value → H} {W : World} {fuel : Nat} {cs : List Value} {x : DataW H × List MemPlace}
theorem mp_of2 (h : DataW.trod enc Tryd.prog W 0 (fun _ => true) true fuel 49 cs = some x) (hs : Sz Tryd.prog 49 x.1) : ∃ y : Mp, mpR W (S0 W) cs y ∧ (fun m : Mp => i64 m.at_) y := by
  obtain ⟨hl, n', hf'⟩ := trod_fieldsW sMap (by simp) h
  rw [cMap] at hl
  obtain ⟨_, y0, s0⟩ := hf' 0 _ _ rfl
  obtain ⟨z0, g0, b0⟩ := field_int uInt cellInt y0
  obtain ⟨_, y1, s1⟩ := hf' 1 _ _ rfl
  obtain ⟨v1, k1, g1, hv1, hf1⟩ := tys_of y1 (s1 hs)
  rw [lTys] at g1
  obtain ⟨_, y2, s2⟩ := hf' 2 _ _ rfl
  obtain ⟨v2, k2, g2, hv2, hf2⟩ := tys_of y2 (s2 hs)
  rw [lTys] at g2
  exact ⟨⟨z0, k1, k2⟩, ⟨v1, v2, l3 hl g0 (cell_of_cut g1) (cell_of_cut g2), hv1, hv2⟩, wf64 b0⟩
theorem mps_of2 (h : DataW.trod enc Tryd.prog W 0 (fun _ => true) true fuel 32 cs = some x) (hs : Sz Tryd.prog 32 x.1) : ∃ v xs, cs = [v] ∧ LRep mpR W (S0 W) v xs ∧ ∀ y ∈ xs, (fun m : Mp => i64 m.at_) y :=
  list_of mpOk (by decide) uMps cMap (by rw [show Tryd.prog.bytesOf 49 = 56 by kernel_rfl]; decide) (fun _ _ _ h hs => mp_of2 h hs) h hs
theorem hnd_of2 (h : DataW.trod enc Tryd.prog W 0 (fun _ => true) true fuel 46 cs = some x) (hs : Sz Tryd.prog 46 x.1) : ∃ y : Hnd, hndR W (S0 W) cs y ∧ iHnd y := by
  obtain ⟨hl, n', hf'⟩ := trod_fieldsW sHandler (by simp) h
  rw [cHandler] at hl
  obtain ⟨_, y0, s0⟩ := hf' 0 _ _ rfl
  obtain ⟨z0, g0, b0⟩ := field_int uInt cellInt y0
  obtain ⟨_, y1, s1⟩ := hf' 1 _ _ rfl
  obtain ⟨z1, g1, b1⟩ := field_int uInt cellInt y1
  obtain ⟨_, y2, s2⟩ := hf' 2 _ _ rfl
  obtain ⟨z2, g2, b2⟩ := field_int uInt cellInt y2
  obtain ⟨_, y3, s3⟩ := hf' 3 _ _ rfl
  obtain ⟨z3, g3, b3⟩ := field_int uInt cellInt y3
  exact ⟨⟨z0, z1, z2, z3⟩, l4 hl g0 g1 g2 g3, wf64 b0, wf64 b1, wf64 b2, wf64 b3⟩
theorem hnds_of2 (h : DataW.trod enc Tryd.prog W 0 (fun _ => true) true fuel 31 cs = some x) (hs : Sz Tryd.prog 31 x.1) : ∃ v xs, cs = [v] ∧ LRep hndR W (S0 W) v xs ∧ ∀ y ∈ xs, iHnd y :=
  list_of hndOk (by decide) uHnds cHandler (by rw [show Tryd.prog.bytesOf 46 = 32 by kernel_rfl]; decide) (fun _ _ _ h hs => hnd_of2 h hs) h hs
theorem cod_of2 (h : DataW.trod enc Tryd.prog W 0 (fun _ => true) true fuel 34 cs = some x) (hs : Sz Tryd.prog 34 x.1) : ∃ y : Cod, codR W (S0 W) cs y ∧ iCod y := by
  obtain ⟨hl, n', hf'⟩ := trod_fieldsW sCode (by simp) h
  rw [cCode] at hl
  obtain ⟨_, y0, s0⟩ := hf' 0 _ _ rfl
  obtain ⟨z0, g0, b0⟩ := field_int uInt cellInt y0
  obtain ⟨_, y1, s1⟩ := hf' 1 _ _ rfl
  obtain ⟨z1, g1, b1⟩ := field_int uInt cellInt y1
  obtain ⟨_, y2, s2⟩ := hf' 2 _ _ rfl
  obtain ⟨v2, k2, g2, hv2, hf2⟩ := bys_of y2 (s2 hs)
  rw [lBys] at g2
  obtain ⟨_, y3, s3⟩ := hf' 3 _ _ rfl
  obtain ⟨v3, k3, g3, hv3, hf3⟩ := hnds_of2 y3 (s3 hs)
  rw [lHnds] at g3
  obtain ⟨_, y4, s4⟩ := hf' 4 _ _ rfl
  obtain ⟨v4, k4, g4, hv4, hf4⟩ := mps_of2 y4 (s4 hs)
  rw [lMps] at g4
  exact ⟨⟨z0, z1, k2, k3, k4⟩, ⟨v2, v3, v4, l5 hl g0 g1 (cell_of_cut g2) (cell_of_cut g3) (cell_of_cut g4), hv2, hv3, hv4⟩, wf64 b0, wf64 b1, hf3, hf4⟩
theorem mth_of2 (h : DataW.trod enc Tryd.prog W 0 (fun _ => true) true fuel 36 cs = some x) (hs : Sz Tryd.prog 36 x.1) : ∃ y : Mth, mthR W (S0 W) cs y ∧ fMth y := by
  obtain ⟨hl, n', hf'⟩ := trod_fieldsW sMethod (by simp) h
  rw [cMethod] at hl
  obtain ⟨_, y0, s0⟩ := hf' 0 _ _ rfl
  obtain ⟨_, y1, s1⟩ := hf' 1 _ _ rfl
  obtain ⟨_, y2, s2⟩ := hf' 2 _ _ rfl
  obtain ⟨_, y3, s3⟩ := hf' 3 _ _ rfl
  obtain ⟨z0, g0, b0⟩ := field_int uInt cellInt y0
  obtain ⟨z1, g1, b1⟩ := field_string uStr cellStr y1
  obtain ⟨z2, g2, b2⟩ := field_string uStr cellStr y2
  rw [str_at] at g1 g2
  obtain ⟨c, ⟨v1, v2, v3, e, hv1, hv2, hv3⟩, hci⟩ := cod_of2 y3 (s3 hs)
  rw [cCode] at e
  exact ⟨⟨z0, z1.data.toList, z2.data.toList, c⟩, ⟨v1, v2, v3, l8m hl g0 g1 g2 e, hv1, hv2, hv3⟩, wf64 b0, hci⟩
theorem mths_of2 (h : DataW.trod enc Tryd.prog W 0 (fun _ => true) true fuel 24 cs = some x) (hs : Sz Tryd.prog 24 x.1) : ∃ v xs, cs = [v] ∧ LRep mthR W (S0 W) v xs ∧ ∀ y ∈ xs, fMth y :=
  list_of mthOk (by decide) uMths cMethod (by rw [show Tryd.prog.bytesOf 36 = 128 by kernel_rfl]; decide) (fun _ _ _ h hs => mth_of2 h hs) h hs
theorem cls_of2 (h : DataW.trod enc Tryd.prog W 0 (fun _ => true) true fuel 26 cs = some x) (hs : Sz Tryd.prog 26 x.1) : ∃ y : Cls, clsR W (S0 W) cs y ∧ fCls y ∧ iCls y := by
  obtain ⟨hl, n', hf'⟩ := trod_fieldsW sClass (by simp) h
  rw [cClass] at hl
  obtain ⟨_, y0, s0⟩ := hf' 0 _ _ rfl
  obtain ⟨v0, k0, g0, hv0, hf0⟩ := ents_of y0 (s0 hs)
  rw [lEnts] at g0
  obtain ⟨_, y1, s1⟩ := hf' 1 _ _ rfl
  obtain ⟨z1, g1, b1⟩ := field_string uStr cellStr y1
  rw [str_at] at g1
  obtain ⟨_, y2, s2⟩ := hf' 2 _ _ rfl
  obtain ⟨z2, g2, b2⟩ := field_string uStr cellStr y2
  rw [str_at] at g2
  obtain ⟨_, y3, s3⟩ := hf' 3 _ _ rfl
  obtain ⟨v3, k3, g3, hv3, hf3⟩ := flds_of y3 (s3 hs)
  rw [lFlds] at g3
  obtain ⟨_, y4, s4⟩ := hf' 4 _ _ rfl
  obtain ⟨v4, k4, g4, hv4, hf4⟩ := mths_of2 y4 (s4 hs)
  rw [lMths] at g4
  exact ⟨⟨k0, z1.data.toList, z2.data.toList, k3, k4⟩, ⟨v0, v3, v4, l5 hl (cell_of_cut g0) g1 g2 (cell_of_cut g3) (cell_of_cut g4), hv0, hv3, hv4⟩, ⟨hf0, hf3, fun m hm => (hf4 m hm).1⟩, fun m hm => (hf4 m hm).2⟩
end
theorem open_cli {H : Type} {enc : TypeId × Value → H} {r : Reach} {b0 : Nat} {v : Value} {d : DataW H} {ps : List MemPlace} {W : World}
    (hval : Value.okWide Tryd.prog W r b0 26 v) (hd : DataW.Trod enc Tryd.prog W 0 (fun _ => true) true 26 v d ps) (hsz : Sz Tryd.prog 26 d) :
    ∃ cs m, v = .agg (List.toArray cs) ∧ clsR W (S0 W) cs m ∧ fCls m ∧ iCls m := by
  obtain ⟨cs, rfl⟩ := okWide_agg (show isStructB Tryd.prog 26 = true by kernel_rfl) hval
  obtain ⟨fuel, hf⟩ := hd
  obtain ⟨m, hm, ho⟩ := cls_of2 hf hsz
  have e1 : (Value.agg cs).cells = cs := rfl
  rw [e1] at hm
  exact ⟨cs.toList, m, rfl, hm, ho⟩
end Go.Proofs.YtdcaafldnbcdkaaDoor.Class

/-! ### KPrints -/
namespace Go.Proofs.YtdcaafldnbcdkaaDoor.Class
open Go Go.Proofs.YtdcaafldnbcdkaaDoor Go.Proofs.YtdcaafldnbcdkaaDoor.Eng Go.Proofs Go.Proofs.YtdcaafldnbcdkaaDoor.Word Go.Proofs.YtdcaafldnbcdkaaDoor.Fmt
open Go.Proofs.YtdcaafldnbcdkaaDoor.Pool (Ent at_ poolF strV entC entV EntOk Pl OkPool both own_low tagAt)
set_option maxRecDepth 10000

theorem ClassPrints_ok (cs0 : List Value) (m : Cls) (S : Nat → Prop) (w : World) (hx : clsR w S cs0 m) (hf : fCls m ∧ iCls m) (hk : Kt w) :
    Calls Tryd.prog 5 #[.agg cs0.toArray] w fun e w' => e = .returned (.bool true) ∧ New w w' := by
  have hx0 := hx
  obtain ⟨hf, hfi⟩ := hf
  obtain ⟨_, _, _, rfl, lp, lf, lm⟩ := hx
  obtain ⟨A1, a1, rfl, _⟩ := lp.get entOk (by decide)
  obtain ⟨F1, f1, rfl, _⟩ := lf.get fldOk (by decide)
  obtain ⟨M1, m1, rfl, _⟩ := lm.get mthOk (by decide)
  have hG := hk.lt
  have hxw : ∀ {w' : World}, New w w' → clsR w' S [.slice A1 m.pool.length a1, strV m.name, strV m.super, .slice F1 m.fields.length f1, .slice M1 m.methods.length m1] m := fun n => clsOk.mod hx0 (n.mod.mono fun _ _ e => False.elim e)
  have hkw : ∀ {w' : World}, New w w' → Kt w' := fun n k h0 h5 => n.cell (hk k h0 h5)
  have hGw : ∀ {w' : World}, New w w' → 0 < w'.heap.size := fun n => by have := n.size; omega
  refine enter ok Tryd.func5 rfl rfl rfl ?_
  refine seq_cut (σ := Unit) (fun _ => [(1, .pointer (some ⟨w.heap.size, 0, none⟩))]) (fun _ w' => New w w' ∧ w'.heap[w.heap.size]? = some (.cells #[.slice A1 m.pool.length a1, strV m.name, strV m.super, .slice F1 m.fields.length f1, .slice M1 m.methods.length m1] 26 (0, 0))) ?_ ?_
  rotate_left
  · intro K hK
    exact hK () _ _ ⟨rfl, trivial⟩ ⟨New.alloc w _, heap_alloc_new w (.cells #[.slice A1 m.pool.length a1, strV m.name, strV m.super, .slice F1 m.fields.length f1, .slice M1 m.methods.length m1] 26)⟩
  rintro _ w1 fr1 ⟨n1, hM1⟩
  refine seq_cut (σ := Unit) (fun _ => [(1, .pointer (some ⟨w.heap.size, 0, none⟩))]) (fun _ w' => New w w' ∧ w'.heap[w.heap.size]? = some (.cells #[.slice A1 m.pool.length a1, strV m.name, strV m.super, .slice F1 m.fields.length f1, .slice M1 m.methods.length m1] 26 (0, 0)) ∧ Small m ∧ cCls m ≤ 170000) ?_ ?_
  rotate_left
  · intro K hK
    refine loadN_row (vs := [.slice A1 m.pool.length a1, strV m.name, strV m.super, .slice F1 m.fields.length f1, .slice M1 m.methods.length m1]) (rowB hM1) rfl ?_
    refine call_ (light_ok [.slice A1 m.pool.length a1, strV m.name, strV m.super, .slice F1 m.fields.length f1, .slice M1 m.methods.length m1] m S w1 (hxw n1)) ?_
    rintro e w3 ⟨b, rfl, hb, n3⟩
    refine ⟨_, rfl, ?_⟩
    cases b with
    | false => exact ⟨rfl, n1.trans n3⟩
    | true =>
      exact hK () _ _ ⟨rfl, trivial⟩ ⟨n1.trans n3, n3.blk hM1, small_weigh (hb rfl).2, (hb rfl).1⟩
  rintro _ w3 fr3 ⟨n3, hM3, hsm, hcost⟩
  -- the copy
  refine seq_cut (σ := Nat) (fun t => [(1, .pointer (some ⟨w.heap.size, 0, none⟩)), (3, .pointer (some ⟨t, 0, none⟩))]) (fun t w' => New w w' ∧ ∃ (T : Nat → Prop) (P2 : Option Addr) (p2 : Nat) (F2 : Option Addr) (f2 : Nat) (M2 : Option Addr) (m2 : Nat), w'.heap[t]? = some (.cells #[.slice P2 m.pool.length p2, strV m.name, strV m.super, .slice F2 m.fields.length f2, .slice M2 m.methods.length m2] 26 (0, 0)) ∧ clsR w' T [.slice P2 m.pool.length p2, strV m.name, strV m.super, .slice F2 m.fields.length f2, .slice M2 m.methods.length m2] m ∧ w'.heap[w.heap.size]? = some (.cells #[.slice A1 m.pool.length a1, strV m.name, strV m.super, .slice F1 m.fields.length f1, .slice M1 m.methods.length m1] 26 (0, 0))) ?_ ?_
  rotate_left
  · intro K hK
    refine loadN_row (vs := [.slice A1 m.pool.length a1, strV m.name, strV m.super, .slice F1 m.fields.length f1, .slice M1 m.methods.length m1]) (rowB hM3) rfl ?_
    refine call_ (CopyS_ok [.slice A1 m.pool.length a1, strV m.name, strV m.super, .slice F1 m.fields.length f1, .slice M1 m.methods.length m1] m S w3 (hxw n3) hsm) ?_
    rintro e w4 ⟨P2, p2, F2, f2, M2, m2, rfl, hy, n4⟩
    refine ⟨_, rfl, ?_⟩
    have hy0 := clsO_R hy
    refine And.intro rfl ?_
    refine storeNew (vs := [.slice P2 m.pool.length p2, strV m.name, strV m.super, .slice F2 m.fields.length f2, .slice M2 m.methods.length m2]) (arr := #[.slice none 0 0, .string ⟨#[]⟩, .string ⟨#[]⟩, .slice none 0 0, .slice none 0 0]) rfl (clsOk.one hy0) ?_
    intro w5 hb5 n5 s5
    exact hK w4.heap.size _ _ ⟨rfl, rfl, trivial⟩ ⟨n3.trans (n4.trans n5), _, P2, p2, F2, f2, M2, m2, hb5, clsOk.mod hy0 (n5.mod.mono fun _ _ e => False.elim e), n5.blk (n4.blk hM3)⟩
  rintro D w4 fr4 ⟨n4, T, P2, p2, F2, f2, M2, m2, hD4, hy4, hM4⟩
  have hyw : ∀ {w' : World}, New w4 w' → clsR w' T [.slice P2 m.pool.length p2, strV m.name, strV m.super, .slice F2 m.fields.length f2, .slice M2 m.methods.length m2] m := fun n => clsOk.mod hy4 (n.mod.mono fun _ _ e => False.elim e)
  refine seq_cut (σ := (Option Addr × Nat) × List UInt8 × Int) (fun t => [(1, .pointer (some ⟨w.heap.size, 0, none⟩)), (3, .pointer (some ⟨D, 0, none⟩)), (4, .slice t.1.1 t.2.1.length t.1.2), (5, zi t.2.2)]) (fun t w' => New w4 w' ∧ t.2.1 = bytesOf m ∧ t.2.2 = errOf m ∧ Row w' t.1.1 (bvs t.2.1)) ?_ ?_
  rotate_left
  · intro K hK
    refine loadN_row (vs := [.slice P2 m.pool.length p2, strV m.name, strV m.super, .slice F2 m.fields.length f2, .slice M2 m.methods.length m2]) (rowB hD4) rfl ?_
    refine call_ (Print_ok [.slice P2 m.pool.length p2, strV m.name, strV m.super, .slice F2 m.fields.length f2, .slice M2 m.methods.length m2] m T w4 hy4 hf (hkw n4) (hGw n4) (by omega)) ?_
    rintro e w5 ⟨A5, c5, rfl, row5, _, _, n5⟩
    refine ⟨_, rfl, ?_⟩
    exact hK ((A5, c5), bytesOf m, errOf m) _ _ ⟨rfl, rfl, rfl, rfl, trivial⟩ ⟨n5, rfl, rfl, row5⟩
  rintro ⟨⟨A5, c5⟩, xs, e5⟩ w5 fr5 ⟨n45, hxs, he5, row5⟩
  dsimp only at hxs he5 row5
  have n5 := n4.trans n45
  have hM5 := n45.blk hM4
  have hD5 := n45.blk hD4
  refine seq_cut (σ := (Option Addr × Nat) × List UInt8 × Int) (fun t => [(1, .pointer (some ⟨w.heap.size, 0, none⟩)), (3, .pointer (some ⟨D, 0, none⟩)), (4, .slice A5 xs.length c5), (5, zi e5), (6, .slice t.1.1 t.2.1.length t.1.2), (7, zi t.2.2)]) (fun t w' => New w5 w' ∧ t.2.1 = bytesOf m ∧ t.2.2 = errOf m ∧ Row w' t.1.1 (bvs t.2.1)) ?_ ?_
  rotate_left
  · intro K hK
    refine loadN_row (vs := [.slice A1 m.pool.length a1, strV m.name, strV m.super, .slice F1 m.fields.length f1, .slice M1 m.methods.length m1]) (rowB hM5) rfl ?_
    refine call_ (rPrint_ok [.slice A1 m.pool.length a1, strV m.name, strV m.super, .slice F1 m.fields.length f1, .slice M1 m.methods.length m1] m S w5 (hxw n5) hf hfi (hkw n5) (hGw n5) (by omega)) ?_
    rintro e w6 ⟨A6, c6, rfl, row6, _, _, n6⟩
    refine ⟨_, rfl, ?_⟩
    exact hK ((A6, c6), bytesOf m, errOf m) _ _ ⟨rfl, rfl, rfl, rfl, rfl, rfl, trivial⟩ ⟨n6, rfl, rfl, row6⟩
  rintro ⟨⟨A6, c6⟩, ys, e6⟩ w6 fr6 ⟨n56, hys, he6, row6⟩
  dsimp only at hys he6 row6
  have n6 := n5.trans n56
  have hM6 := n56.blk hM5
  have hD6 := n56.blk hD5
  refine call_ (Base.SameBytes_ok A5 A6 _ c5 _ c6 xs ys w6 rfl rfl (row5.new n56) row6) ?_
  rintro e w7 ⟨rfl, hw7⟩
  obtain rfl := hw7.symm
  refine ⟨_, rfl, ?_⟩
  rw [decide_eq_true (hxs.trans hys.symm)]
  refine if_p (fun _ => ?_) (fun h => absurd (he5.trans he6.symm) h)
  refine loadN_row (vs := [.slice P2 m.pool.length p2, strV m.name, strV m.super, .slice F2 m.fields.length f2, .slice M2 m.methods.length m2]) (rowB hD6) rfl ?_
  refine call_ (Check_ok [.slice P2 m.pool.length p2, strV m.name, strV m.super, .slice F2 m.fields.length f2, .slice M2 m.methods.length m2] m T w6 (hyw (n45.trans n56)) hf (hkw n6) (hGw n6) (by omega)) ?_
  rintro e w8 ⟨rfl, n8⟩
  refine ⟨_, rfl, ?_⟩
  have hD8 := n8.blk hD6
  have hM8 := n8.blk hM6
  refine if_p (fun _ => ?_) (fun h => absurd he6.symm h)
  refine loadN_row (vs := [.slice P2 m.pool.length p2, strV m.name, strV m.super, .slice F2 m.fields.length f2, .slice M2 m.methods.length m2]) (rowB hD8) rfl ?_
  refine loadN_row (vs := [.slice A1 m.pool.length a1, strV m.name, strV m.super, .slice F1 m.fields.length f1, .slice M1 m.methods.length m1]) (rowB hM8) rfl ?_
  refine call_ (SameClass_ok [.slice P2 m.pool.length p2, strV m.name, strV m.super, .slice F2 m.fields.length f2, .slice M2 m.methods.length m2] [.slice A1 m.pool.length a1, strV m.name, strV m.super, .slice F1 m.fields.length f1, .slice M1 m.methods.length m1] m T S w8 (hyw (n45.trans (n56.trans n8))) (hxw (n6.trans n8)) hf.1) ?_
  rintro e w9 ⟨rfl, n9⟩
  refine ⟨_, rfl, ?_⟩
  have n69 := n6.trans (n8.trans n9)
  refine call_ (works_ok w9 (hkw n69) (hGw n69)) ?_
  rintro e w10 ⟨rfl, n10⟩
  refine ⟨_, rfl, ?_⟩
  exact ⟨rfl, n69.trans n10⟩

end Go.Proofs.YtdcaafldnbcdkaaDoor.Class
