/- Plain mathematics of codes: what the reader says, in the words of the format. No program in sight. -/
import Derived.Test.YtcpeekeiflglpaaSays
import Derived.Test.YtcpeekeiflglpaaCMath
namespace Go.Proofs.Ytcpeekeiflglpaa.Code
open Go Go.Proofs.Ytcpeekeiflglpaa.Eng Go.Proofs.Ytcpeekeiflglpaa.Word Go.Proofs.Ytcpeekeiflglpaa.Fmt
open Go.Proofs.Ytcpeekeiflglpaa.Pool (numR Says says_num says_via Says.trans numR_err)
set_option maxRecDepth 10000

/-! ### Noughts -/
theorem pad_parse (n : Nat) (bs : List UInt8) : (padF n).parse bs = if bs.length < n then none else if bs.take n = List.replicate n 0 then some ((), bs.drop n) else none := rfl
theorem num_parse (k : Nat) (sign : Bool) (hk : wide (k : Int) = true) (bs : List UInt8) : (num k sign hk).parse bs = numP k sign bs := rfl
theorem pad_nil (n : Nat) : (padF (n + 1)).parse [] = none := by
  rw [pad_parse, if_pos (by simp)]
theorem pad_cons (n : Nat) (b : UInt8) (r : List UInt8) : (padF (n + 1)).parse (b :: r) = if b = 0 then (padF n).parse r else none := by
  rw [pad_parse, pad_parse, List.length_cons]
  by_cases hl : r.length < n
  · rw [if_pos (by omega), if_pos hl]
    split <;> rfl
  · rw [if_neg (by omega), if_neg hl, List.take_succ_cons, List.drop_succ_cons, List.replicate_succ]
    by_cases hb : b = 0
    · subst hb
      rw [if_pos rfl]
      simp only [List.cons.injEq, true_and]
    · rw [if_neg hb, if_neg (by simp [hb])]
theorem num_nil {k : Nat} (sign : Bool) (hk : wide (k : Int) = true) : (num k sign hk).parse [] = none := by
  have := wide4 hk
  rw [num_parse]
  unfold numP
  rw [if_pos (by simp; omega)]
theorem num1_cons (b : UInt8) (r : List UInt8) : (num 1 false w1).parse (b :: r) = some ((b.toNat : Int), r) := by
  have hb := b.toNat_lt
  rw [num_parse]
  unfold numP
  have e : be ((b :: r).take 1) = b.toNat := by simp [be]
  rw [e, if_neg (by simp), if_neg (by decide), if_pos (by omega)]
  rfl
def padStep (bs : List UInt8) (s : Nat × Int) : Nat × Int := if (numR bs false 1 s).1 ≠ 0 then ((numR bs false 1 s).2.1, 1) else (numR bs false 1 s).2
def padR (bs : List UInt8) : Nat → Nat × Int → Nat × Int
  | 0, s => s
  | n + 1, s => padR bs n (padStep bs s)
theorem padStep_err {bs : List UInt8} {s : Nat × Int} (h : s.2 ≠ 0) : padStep bs s = s := by
  unfold padStep
  rw [numR_err bs false 1 h, if_neg (by simp)]
theorem padR_err {bs : List UInt8} {s : Nat × Int} (h : s.2 ≠ 0) : ∀ n, padR bs n s = s
  | 0 => rfl
  | n + 1 => by rw [padR, padStep_err h, padR_err h n]
theorem says_pad (bs : List UInt8) : ∀ (n i : Nat), i ≤ bs.length → Says bs i ((padF n).parse (bs.drop i)) ((), padR bs n (i, 0))
  | 0, i, hi => by
    refine .inl ⟨(), i, ?_, rfl, Nat.le_refl _, hi⟩
    rw [pad_parse, if_neg (by omega), if_pos (by simp)]
    simp
  | n + 1, i, hi => by
    rcases says_num bs false 1 w1 i hi with ⟨v, j, e1, e2, e3, e4⟩ | ⟨e1, e2, e3⟩
    · rw [padR]
      unfold padStep
      rw [e2]
      cases hd : bs.drop i with
      | nil => rw [hd, num_nil] at e1; cases e1
      | cons b r =>
        rw [hd, num1_cons] at e1
        simp only [Option.some.injEq, Prod.mk.injEq] at e1
        obtain ⟨e5, e6⟩ := e1
        rw [pad_cons]
        by_cases hb : b = 0
        · subst hb
          have hv : v = 0 := e5.symm
          rw [if_pos rfl, if_neg (by rw [hv]; simp), e6]
          rcases says_pad bs n j e4 with ⟨u, k, f1, f2, f3, f4⟩ | ⟨f1, f2, f3, f4⟩
          · exact .inl ⟨u, k, f1, f2, Nat.le_trans (Nat.le_trans (Nat.le_refl _) e3) f3, f4⟩
          · exact .inr ⟨f1, f2, Nat.le_trans e3 f3, f4⟩
        · have hv : v ≠ 0 := by
            rintro rfl
            apply hb
            have : b.toNat = 0 := by omega
            exact UInt8.toNat_inj.1 this
          rw [if_neg hb, if_pos hv, padR_err (by simp)]
          exact .inr ⟨rfl, by simp, e3, e4⟩
    · rw [padR]
      unfold padStep
      have hq : numR bs false 1 (i, 0) = (0, (numR bs false 1 (i, 0)).2) := by
        unfold numR
        rw [if_pos rfl]
        rcases get_num 1 false w1 bs i hi with ⟨v, h1, h2, h3⟩ | ⟨h1, e, he, h2⟩
        · rw [show (num 1 false w1).parse (bs.drop i) = numP 1 false (bs.drop i) from rfl, h1] at e1
          cases e1
        · rw [h2]
      rw [hq, if_neg (by simp)]
      have hn : bs.drop i = [] := by
        cases hd : bs.drop i with
        | nil => rfl
        | cons b r => rw [hd, num1_cons] at e1; cases e1
      rw [hn, pad_nil, padR_err e2]
      exact .inr ⟨rfl, e2, e3⟩

/-! ### Tests -/
def testR {α : Type} (c : α → Bool) (q : α × Nat × Int) : α × Nat × Int := if q.2.2 ≠ 0 then q else if c q.1 = true then q else (q.1, q.2.1, 1)
theorem testR_fst {α : Type} (c : α → Bool) (q : α × Nat × Int) : (testR c q).1 = q.1 := by
  unfold testR
  split
  · rfl
  · split <;> rfl
theorem testR_err {α : Type} {c : α → Bool} {q : α × Nat × Int} (h : q.2.2 ≠ 0) : testR c q = q := by unfold testR; rw [if_pos h]
theorem says_test {α : Type} {bs : List UInt8} {i : Nat} {F : Fmt α} (c : α → Bool) {q : α × Nat × Int} (h : Says bs i (F.parse (bs.drop i)) q) : Says bs i ((filtF F c).parse (bs.drop i)) (testR c q) := by
  have hp : (filtF F c).parse (bs.drop i) = (F.parse (bs.drop i)).bind fun r => if c r.1 = true then some r else none := rfl
  rw [hp]
  unfold testR
  rcases h with ⟨v, j, e1, e2, e3, e4⟩ | ⟨e1, e2, e3⟩
  · subst e2
    rw [e1, Option.bind_some, if_neg (show ¬ (v, j, (0 : Int)).2.2 ≠ 0 from fun h => h rfl)]
    by_cases hc : c v = true
    · rw [if_pos (show c (v, bs.drop j).1 = true from hc), if_pos (show c (v, j, (0 : Int)).1 = true from hc)]
      exact .inl ⟨v, j, rfl, rfl, e3, e4⟩
    · rw [if_neg (show ¬ c (v, bs.drop j).1 = true from hc), if_neg (show ¬ c (v, j, (0 : Int)).1 = true from hc)]
      exact .inr ⟨rfl, by simp, e3, e4⟩
  · rw [e1, if_pos e2]
    exact .inr ⟨rfl, e2, e3⟩

/-! ### Cases -/
def stopR (k : Int) (t : Bool) (s : Nat × Int) : Nat × Int := if s.2 ≠ 0 then s else if t = true then (s.1, k) else s
def lastKey (acc : List Cs) : Int := (acc.getLast?.map (·.key)).getD 0
/-- A key: read, and it must rise; or counted. -/
def keyR (bs : List UInt8) (srch : Bool) (low : Int) (acc : List Cs) (s : Nat × Int) : Int × Nat × Int :=
  if srch = true then ((numR bs true 4 s).1, stopR 1 (decide (acc ≠ []) && decide (lastKey acc ≥ (numR bs true 4 s).1)) (numR bs true 4 s).2) else (low + acc.length, s)
def caseR (bs : List UInt8) (srch : Bool) (p low : Int) (acc : List Cs) (s : Nat × Int) : Cs × Nat × Int :=
  (⟨(keyR bs srch low acc s).1, p + (numR bs true 4 (keyR bs srch low acc s).2).1⟩, (numR bs true 4 (keyR bs srch low acc s).2).2)
def loopC (bs : List UInt8) (srch : Bool) (p low : Int) : Nat → List Cs → Nat × Int → List Cs × Nat × Int
  | 0, acc, s => (acc, s)
  | f + 1, acc, s => if s.2 = 0 then loopC bs srch p low f (acc ++ [(caseR bs srch p low acc s).1]) (caseR bs srch p low acc s).2 else (acc, s)
theorem loopC_err {bs : List UInt8} {srch : Bool} {p low : Int} {acc : List Cs} {s : Nat × Int} (h : s.2 ≠ 0) : ∀ f, loopC bs srch p low f acc s = (acc, s)
  | 0 => rfl
  | f + 1 => by rw [loopC, if_neg h]
def headR (bs : List UInt8) (srch : Bool) (s : Nat × Int) : (Int × Int) × Nat × Int :=
  if srch = true then ((0, (numR bs false 4 s).1), stopR 1 (decide ((numR bs false 4 s).1 > 256)) (numR bs false 4 s).2)
  else (((numR bs true 4 s).1, (numR bs true 4 (numR bs true 4 s).2).1 - (numR bs true 4 s).1 + 1),
    stopR 1 (decide ((numR bs true 4 (numR bs true 4 s).2).1 - (numR bs true 4 s).1 + 1 > 256)) (stopR 1 (decide ((numR bs true 4 (numR bs true 4 s).2).1 - (numR bs true 4 s).1 + 1 < 1)) (numR bs true 4 (numR bs true 4 s).2).2))
def casesEnd (bs : List UInt8) (srch : Bool) (p op far : Int) (q : (Int × Int) × Nat × Int) : Ins × Nat × Int :=
  (⟨p, op, p + far, q.1.1, (loopC bs srch p q.1.1 q.1.2.toNat [] q.2).1⟩, (loopC bs srch p q.1.1 q.1.2.toNat [] q.2).2)
def casesR (bs : List UInt8) (srch : Bool) (p : Nat) (op : Int) (s : Nat × Int) : Ins × Nat × Int :=
  casesEnd bs srch p op (numR bs true 4 (padR bs (padOf p) s)).1 (headR bs srch (numR bs true 4 (padR bs (padOf p) s)).2)
theorem stopR_err {k : Int} {t : Bool} {s : Nat × Int} (h : s.2 ≠ 0) : stopR k t s = s := by unfold stopR; rw [if_pos h]
theorem stopR_no {k : Int} {s : Nat × Int} : stopR k false s = s := by unfold stopR; split <;> rfl
theorem stopR_yes {k : Int} {s : Nat × Int} (h : s.2 = 0) : stopR k true s = (s.1, k) := by unfold stopR; rw [if_neg (by simpa using h), if_pos rfl]
theorem stopR_fst {k : Int} {t : Bool} {s : Nat × Int} : (stopR k t s).1 = s.1 := by
  unfold stopR
  split
  · rfl
  · split <;> rfl

/-- Cases counted. -/
theorem says_counted (bs : List UInt8) (p low : Int) : ∀ (f : Nat) (acc : List Cs) (i : Nat), i ≤ bs.length →
    Says bs i ((manyP (num 4 true w4) f (bs.drop i)).map fun r => (acc ++ numbered p (low + acc.length) r.1, r.2)) (loopC bs false p low f acc (i, 0))
  | 0, acc, i, hi => .inl ⟨acc, i, by simp [manyP, numbered], rfl, Nat.le_refl _, hi⟩
  | f + 1, acc, i, hi => by
    rw [loopC, if_pos rfl, manyP]
    unfold caseR keyR
    simp only [Bool.false_eq_true, if_false]
    rcases says_num bs true 4 w4 i hi with ⟨v, j, e1, e2, e3, e4⟩ | ⟨e1, e2, e3⟩
    · rw [e1, e2, Option.bind_some]
      simp only
      rcases says_counted bs p low f (acc ++ [⟨low + acc.length, p + v⟩]) j e4 with ⟨u, k, f1, f2, f3, f4⟩ | ⟨f1, f2, f3, f4⟩
      · refine .inl ⟨u, k, ?_, f2, by omega, f4⟩
        rw [← f1, Option.map_map]
        congr 1
        funext r
        simp [numbered, Int.add_assoc]
      · refine .inr ⟨?_, f2, by omega, f4⟩
        rw [Option.map_eq_none_iff] at f1 ⊢
        rw [f1]
        rfl
    · rw [e1, loopC_err e2]
      exact .inr ⟨rfl, e2, e3⟩

/-! ### Cases with keys -/
def toCs (p : Int) (r : Int × Int) : Cs := ⟨r.1, p + r.2⟩
theorem rise_app : ∀ (l r : List (Int × Int)), riseB (l ++ r) = true → riseB l = true
  | [], _, _ => rfl
  | [_], _, _ => rfl
  | x :: y :: l, r, h => by
    rw [List.cons_append, List.cons_append, riseB, Bool.and_eq_true] at h
    rw [riseB, h.1, Bool.true_and]
    exact rise_app (y :: l) r h.2
theorem rise_snoc : ∀ (l : List (Int × Int)) (x y : Int × Int), riseB (l ++ [x] ++ [y]) = (riseB (l ++ [x]) && decide (x.1 < y.1))
  | [], x, y => by simp [riseB]
  | [z], x, y => by simp [riseB]
  | z :: z' :: l, x, y => by
    have := rise_snoc (z' :: l) x y
    simp only [List.cons_append] at this ⊢
    rw [riseB, this, riseB, Bool.and_assoc]
def riseIf (acc : List (Int × Int)) (p : Int) (r : List (Int × Int) × List UInt8) : Option (List Cs × List UInt8) := if riseB (acc ++ r.1) = true then some ((acc ++ r.1).map (toCs p), r.2) else none
theorem says_keyed (bs : List UInt8) (p : Int) : ∀ (f : Nat) (acc : List (Int × Int)) (i : Nat), i ≤ bs.length → riseB acc = true →
    Says bs i ((manyP (dseq (num 4 true w4) fun _ => num 4 true w4) f (bs.drop i)).bind (riseIf acc p)) (loopC bs true p 0 f (acc.map (toCs p)) (i, 0))
  | 0, acc, i, hi, hr => .inl ⟨acc.map (toCs p), i, by simp [manyP, riseIf, hr], rfl, Nat.le_refl _, hi⟩
  | f + 1, acc, i, hi, hr => by
    rw [loopC, if_pos rfl, manyP]
    unfold caseR keyR
    simp only [if_true]
    have hd : (dseq (num 4 true w4) fun _ => num 4 true w4).parse (bs.drop i) = ((num 4 true w4).parse (bs.drop i)).bind fun r => ((num 4 true w4).parse r.2).map fun s => ((r.1, s.1), s.2) := rfl
    rw [hd]
    rcases says_num bs true 4 w4 i hi with ⟨v, j, e1, e2, e3, e4⟩ | ⟨e1, e2, e3⟩
    · rw [e1, e2, Option.bind_some]
      simp only
      have hrise : ∀ u : Int, riseB (acc ++ [(v, u)]) = !(decide (acc.map (toCs p) ≠ []) && decide (lastKey (acc.map (toCs p)) ≥ v)) := fun u => by
        rcases List.eq_nil_or_concat acc with rfl | ⟨l, x, rfl⟩
        · simp [riseB]
        · rw [List.concat_eq_append] at hr ⊢
          rw [rise_snoc, hr]
          have h1 : lastKey ((l ++ [x]).map (toCs p)) = x.1 := by simp [lastKey, toCs]
          rw [h1]
          by_cases hx : x.1 < v
          · rw [decide_eq_true hx, decide_eq_false (show ¬ x.1 ≥ v by omega)]
            simp
          · rw [decide_eq_false hx, decide_eq_true (show x.1 ≥ v by omega)]
            simp
      cases hb : (decide (acc.map (toCs p) ≠ []) && decide (lastKey (acc.map (toCs p)) ≥ v)) with
      | true =>
        rw [stopR_yes rfl]
        rw [numR_err bs true 4 (s := (j, 1)) (by simp), loopC_err (by simp)]
        refine .inr ⟨?_, by simp, e3, e4⟩
        cases hm : ((num 4 true w4).parse (bs.drop j)) with
        | none => rfl
        | some s =>
          simp only [Option.map_some, Option.bind_some]
          cases hm2 : manyP (dseq (num 4 true w4) fun _ => num 4 true w4) f s.2 with
          | none => rfl
          | some t =>
            simp only [Option.map_some, Option.bind_some]
            unfold riseIf
            rw [if_neg]
            intro h
            have h2 := rise_app (acc ++ [(v, s.1)]) t.1 (by rw [List.append_assoc]; exact h)
            rw [hrise, hb] at h2
            cases h2
      | false =>
        rw [stopR_no]
        rcases says_num bs true 4 w4 j e4 with ⟨u, k, f1, f2, f3, f4⟩ | ⟨f1, f2, f3⟩
        · rw [f1, f2]
          simp only [Option.map_some, Option.bind_some]
          have hr2 : riseB (acc ++ [(v, u)]) = true := by rw [hrise, hb]; rfl
          have := says_keyed bs p f (acc ++ [(v, u)]) k f4 hr2
          have hacc : (acc ++ [(v, u)]).map (toCs p) = acc.map (toCs p) ++ [⟨v, p + u⟩] := by simp [toCs]
          rw [hacc] at this
          rcases this with ⟨x, m, g1, g2, g3, g4⟩ | ⟨g1, g2, g3, g4⟩
          · refine .inl ⟨x, m, ?_, g2, by omega, g4⟩
            rw [← g1]
            cases manyP (dseq (num 4 true w4) fun _ => num 4 true w4) f (bs.drop k) with
            | none => rfl
            | some t =>
              simp only [Option.map_some, Option.bind_some]
              unfold riseIf
              simp [List.append_assoc]
          · refine .inr ⟨?_, g2, by omega, g4⟩
            rw [← g1]
            cases manyP (dseq (num 4 true w4) fun _ => num 4 true w4) f (bs.drop k) with
            | none => rfl
            | some t =>
              simp only [Option.map_some, Option.bind_some]
              unfold riseIf
              simp [List.append_assoc]
        · rw [f1, loopC_err f2]
          exact .inr ⟨rfl, f2, Nat.le_trans e3 f3.1, f3.2⟩
    · rw [e1]
      have h0 : stopR 1 (decide (acc.map (toCs p) ≠ []) && decide (lastKey (acc.map (toCs p)) ≥ (numR bs true 4 (i, 0)).1)) (numR bs true 4 (i, 0)).2 = (numR bs true 4 (i, 0)).2 := stopR_err e2
      rw [h0, numR_err bs true 4 e2, loopC_err e2]
      exact .inr ⟨rfl, e2, e3⟩

/-! ### Heads -/
theorem says_low (bs : List UInt8) (i : Nat) (hi : i ≤ bs.length) :
    Says bs i ((filtF (dseq (num 4 true w4) fun _ => num 4 true w4) fun r => decide (1 ≤ r.2 - r.1 + 1) && decide (r.2 - r.1 + 1 ≤ 256)).parse (bs.drop i))
      (((numR bs true 4 (i, 0)).1, (numR bs true 4 (numR bs true 4 (i, 0)).2).1), (headR bs false (i, 0)).2) := by
  have h := says_test (fun r : Int × Int => decide (1 ≤ r.2 - r.1 + 1) && decide (r.2 - r.1 + 1 ≤ 256)) (Says.trans (G := fun _ => num 4 true w4) (r := fun q => numR bs true 4 q.2) (says_num bs true 4 w4 i hi) (fun v j _ hj => says_num bs true 4 w4 j hj) fun h => by rw [numR_err bs true 4 h])
  have e : testR (fun r : Int × Int => decide (1 ≤ r.2 - r.1 + 1) && decide (r.2 - r.1 + 1 ≤ 256)) (((numR bs true 4 (i, 0)).1, (numR bs true 4 (numR bs true 4 (i, 0)).2).1), (numR bs true 4 (numR bs true 4 (i, 0)).2).2) =
      (((numR bs true 4 (i, 0)).1, (numR bs true 4 (numR bs true 4 (i, 0)).2).1), (headR bs false (i, 0)).2) := by
    unfold headR testR
    simp only [Bool.false_eq_true, if_false]
    generalize numR bs true 4 (numR bs true 4 (i, 0)).2 = h
    generalize (numR bs true 4 (i, 0)).1 = l
    obtain ⟨v, s⟩ := h
    simp only
    by_cases he : s.2 ≠ 0
    · rw [if_pos he, stopR_err he, stopR_err he]
    · rw [if_neg he]
      have he' : s.2 = 0 := by simpa using he
      by_cases h1 : v - l + 1 < 1
      · rw [decide_eq_true h1, stopR_yes he', stopR_err (s := (s.1, 1)) (by simp), if_neg (by simp; omega)]
      · rw [decide_eq_false h1, stopR_no]
        by_cases h2 : v - l + 1 > 256
        · rw [decide_eq_true h2, stopR_yes he', if_neg (by simp; omega)]
        · rw [decide_eq_false h2, stopR_no, if_pos (by simp; omega)]
  rw [← e]
  exact h
theorem says_many (bs : List UInt8) (i : Nat) (hi : i ≤ bs.length) : Says bs i ((filtF (num 4 false w4) fun n => decide (n ≤ 256)).parse (bs.drop i)) ((headR bs true (i, 0)).1.2, (headR bs true (i, 0)).2) := by
  have h := says_test (fun n : Int => decide (n ≤ 256)) (says_num bs false 4 w4 i hi)
  have e : testR (fun n : Int => decide (n ≤ 256)) (numR bs false 4 (i, 0)) = ((headR bs true (i, 0)).1.2, (headR bs true (i, 0)).2) := by
    unfold headR testR
    simp only [if_true]
    generalize numR bs false 4 (i, 0) = h
    obtain ⟨v, s⟩ := h
    simp only
    by_cases he : s.2 ≠ 0
    · rw [if_pos he, stopR_err he]
    · rw [if_neg he]
      have he' : s.2 = 0 := by simpa using he
      by_cases h2 : v > 256
      · rw [decide_eq_true h2, stopR_yes he', if_neg (by simp; omega)]
      · rw [decide_eq_false h2, stopR_no, if_pos (by simp; omega)]
  rw [← e]
  exact h
theorem headR_err {bs : List UInt8} {srch : Bool} {s : Nat × Int} (h : s.2 ≠ 0) : (headR bs srch s).2 = s := by
  unfold headR
  cases srch with
  | true => simp only [if_true]; rw [numR_err bs false 4 h, stopR_err h]
  | false => simp only [Bool.false_eq_true, if_false]; rw [numR_err bs true 4 h, numR_err bs true 4 h, stopR_err h, stopR_err h]
theorem casesEnd_err {bs : List UInt8} {srch : Bool} {p op far : Int} {q : (Int × Int) × Nat × Int} (h : q.2.2 ≠ 0) : (casesEnd bs srch p op far q).2 = q.2 := by
  unfold casesEnd
  rw [loopC_err h]

/-! ### Tables and searches -/
theorem tab_parse (p : Nat) (op : Int) (x : List UInt8) : (tabF p op).parse x = ((padF (padOf p)).parse x).bind fun r0 => ((num 4 true w4).parse r0.2).bind fun r1 =>
    ((filtF (dseq (num 4 true w4) fun _ => num 4 true w4) fun r => decide (1 ≤ r.2 - r.1 + 1) && decide (r.2 - r.1 + 1 ≤ 256)).parse r1.2).bind fun r2 =>
    (manyP (num 4 true w4) (r2.1.2 - r2.1.1 + 1).toNat r2.2).map fun r3 => (⟨p, op, p + r1.1, r2.1.1, numbered p r2.1.1 r3.1⟩, r3.2) := by
  unfold tabF
  change Option.map _ (Option.bind ((padF (padOf p)).parse x) fun r0 => Option.map (fun s => ((r0.1, s.1), s.2)) (Option.bind ((num 4 true w4).parse r0.2) fun r1 => Option.map (fun s => ((r1.1, s.1), s.2))
    (Option.bind ((filtF (dseq (num 4 true w4) fun _ => num 4 true w4) fun r => decide (1 ≤ r.2 - r.1 + 1) && decide (r.2 - r.1 + 1 ≤ 256)).parse r1.2) fun r2 => Option.map (fun s => ((r2.1, s.1), s.2)) (manyP (num 4 true w4) (r2.1.2 - r2.1.1 + 1).toNat r2.2)))) = _
  cases (padF (padOf p)).parse x with
  | none => rfl
  | some r0 =>
    simp only [Option.bind_some]
    cases (num 4 true w4).parse r0.2 with
    | none => rfl
    | some r1 =>
      simp only [Option.bind_some]
      cases (filtF (dseq (num 4 true w4) fun _ => num 4 true w4) fun r => decide (1 ≤ r.2 - r.1 + 1) && decide (r.2 - r.1 + 1 ≤ 256)).parse r1.2 with
      | none => rfl
      | some r2 =>
        simp only [Option.bind_some]
        cases manyP (num 4 true w4) (r2.1.2 - r2.1.1 + 1).toNat r2.2 <;> rfl
theorem says_tab (bs : List UInt8) (p : Nat) (op : Int) (i : Nat) (hi : i ≤ bs.length) : Says bs i ((tabF p op).parse (bs.drop i)) (casesR bs false p op (i, 0)) := by
  rw [tab_parse]
  unfold casesR
  rcases says_pad bs (padOf p) i hi with ⟨v0, j0, a1, a2, a3, a4⟩ | ⟨a1, a2, a3⟩
  · rw [a1, Option.bind_some, show padR bs (padOf p) (i, 0) = (j0, 0) from (Prod.mk.inj a2).2]
    simp only
    rcases says_num bs true 4 w4 j0 a4 with ⟨v1, j1, b1, b2, b3, b4⟩ | ⟨b1, b2, b3⟩
    · rw [b1, Option.bind_some, b2]
      simp only
      rcases says_low bs j1 b4 with ⟨v2, j2, c1, c2, c3, c4⟩ | ⟨c1, c2, c3⟩
      · rw [c1, Option.bind_some]
        simp only
        have h1 := (Prod.mk.inj c2).1
        have h2 := (Prod.mk.inj c2).2
        have hh : headR bs false (j1, 0) = ((v2.1, v2.2 - v2.1 + 1), j2, 0) := by
          rw [← h2]
          subst h1
          rfl
        rw [hh]
        unfold casesEnd
        simp only
        rcases says_counted bs p v2.1 (v2.2 - v2.1 + 1).toNat [] j2 c4 with ⟨u, k, f1, f2, f3, f4⟩ | ⟨f1, f2, f3, f4⟩
        · rw [f2]
          refine .inl ⟨⟨p, op, p + v1, v2.1, u⟩, k, ?_, rfl, by omega, f4⟩
          cases hm : manyP (num 4 true w4) (v2.2 - v2.1 + 1).toNat (bs.drop j2) with
          | none => rw [hm] at f1; cases f1
          | some r =>
            rw [hm] at f1
            simp only [Option.map_some, Option.some.injEq, Prod.mk.injEq, List.nil_append, List.length_nil, Int.natCast_zero, Int.add_zero] at f1 ⊢
            exact ⟨by rw [← f1.1], f1.2⟩
        · rw [Option.map_eq_none_iff] at f1
          rw [f1]
          exact .inr ⟨rfl, f2, by simp only; omega, f4⟩
      · rw [c1]
        have he : (headR bs false (j1, 0)).2.2 ≠ 0 := c2
        rw [show (casesEnd bs false p op v1 (headR bs false (j1, 0))) = ((casesEnd bs false p op v1 (headR bs false (j1, 0))).1, (headR bs false (j1, 0)).2) from Prod.ext rfl (casesEnd_err he)]
        refine .inr ⟨rfl, he, ?_, c3.2⟩
        have := c3.1
        show i ≤ (headR bs false (j1, 0)).2.1
        simp only at this
        omega
    · rw [b1]
      have he : (headR bs false (numR bs true 4 (j0, 0)).2).2 = (numR bs true 4 (j0, 0)).2 := headR_err b2
      have hc : (casesEnd bs false p op (numR bs true 4 (j0, 0)).1 (headR bs false (numR bs true 4 (j0, 0)).2)).2 = (numR bs true 4 (j0, 0)).2 := by rw [casesEnd_err (by rw [he]; exact b2), he]
      exact .inr ⟨rfl, by rw [hc]; exact b2, by rw [hc]; omega, by rw [hc]; exact b3.2⟩
  · rw [a1]
    simp only at a2 a3
    rw [numR_err bs true 4 a2]
    simp only
    have he : (headR bs false (padR bs (padOf p) (i, 0))).2 = padR bs (padOf p) (i, 0) := headR_err a2
    have hc : (casesEnd bs false p op 0 (headR bs false (padR bs (padOf p) (i, 0)))).2 = padR bs (padOf p) (i, 0) := by rw [casesEnd_err (by rw [he]; exact a2), he]
    exact .inr ⟨rfl, by rw [hc]; exact a2, by rw [hc]; exact a3.1, by rw [hc]; exact a3.2⟩
theorem sch_parse (p : Nat) (op : Int) (x : List UInt8) : (schF p op).parse x = ((padF (padOf p)).parse x).bind fun r0 => ((num 4 true w4).parse r0.2).bind fun r1 =>
    ((filtF (num 4 false w4) fun n => decide (n ≤ 256)).parse r1.2).bind fun r2 =>
    ((manyP (dseq (num 4 true w4) fun _ => num 4 true w4) r2.1.toNat r2.2).bind (riseIf [] p)).map fun r3 => (⟨p, op, p + r1.1, 0, r3.1⟩, r3.2) := by
  unfold schF
  change Option.map _ (Option.bind ((padF (padOf p)).parse x) fun r0 => Option.map (fun s => ((r0.1, s.1), s.2)) (Option.bind ((num 4 true w4).parse r0.2) fun r1 => Option.map (fun s => ((r1.1, s.1), s.2))
    (Option.bind ((filtF (num 4 false w4) fun n => decide (n ≤ 256)).parse r1.2) fun r2 => Option.map (fun s => ((r2.1, s.1), s.2)) (Option.bind (manyP (dseq (num 4 true w4) fun _ => num 4 true w4) r2.1.toNat r2.2) fun r => if riseB r.1 = true then some r else none)))) = _
  cases (padF (padOf p)).parse x with
  | none => rfl
  | some r0 =>
    simp only [Option.bind_some]
    cases (num 4 true w4).parse r0.2 with
    | none => rfl
    | some r1 =>
      simp only [Option.bind_some]
      cases (filtF (num 4 false w4) fun n => decide (n ≤ 256)).parse r1.2 with
      | none => rfl
      | some r2 =>
        simp only [Option.bind_some]
        cases manyP (dseq (num 4 true w4) fun _ => num 4 true w4) r2.1.toNat r2.2 with
        | none => rfl
        | some r3 =>
          simp only [Option.bind_some]
          unfold riseIf
          rw [List.nil_append]
          by_cases hr : riseB r3.1 = true
          · rw [if_pos hr, if_pos hr]
            rfl
          · rw [if_neg hr, if_neg hr]
            rfl
theorem says_sch (bs : List UInt8) (p : Nat) (op : Int) (i : Nat) (hi : i ≤ bs.length) : Says bs i ((schF p op).parse (bs.drop i)) (casesR bs true p op (i, 0)) := by
  rw [sch_parse]
  unfold casesR
  rcases says_pad bs (padOf p) i hi with ⟨v0, j0, a1, a2, a3, a4⟩ | ⟨a1, a2, a3⟩
  · rw [a1, Option.bind_some, show padR bs (padOf p) (i, 0) = (j0, 0) from (Prod.mk.inj a2).2]
    simp only
    rcases says_num bs true 4 w4 j0 a4 with ⟨v1, j1, b1, b2, b3, b4⟩ | ⟨b1, b2, b3⟩
    · rw [b1, Option.bind_some, b2]
      simp only
      have h0 : (headR bs true (j1, 0)).1.1 = 0 := rfl
      rcases says_many bs j1 b4 with ⟨v2, j2, c1, c2, c3, c4⟩ | ⟨c1, c2, c3⟩
      · rw [c1, Option.bind_some]
        simp only
        have h1 := (Prod.mk.inj c2).1
        have h2 := (Prod.mk.inj c2).2
        have hh : headR bs true (j1, 0) = ((0, v2), j2, 0) := by
          rw [← h2, ← h1]
          rfl
        rw [hh]
        unfold casesEnd
        simp only
        rcases says_keyed bs p v2.toNat [] j2 c4 rfl with ⟨u, k, f1, f2, f3, f4⟩ | ⟨f1, f2, f3, f4⟩
        · rw [List.map_nil] at f2
          rw [f2, f1]
          exact .inl ⟨⟨p, op, p + v1, 0, u⟩, k, rfl, rfl, by omega, f4⟩
        · rw [List.map_nil] at f2 f3 f4
          rw [f1]
          exact .inr ⟨rfl, f2, by simp only; omega, f4⟩
      · rw [c1]
        have he : (headR bs true (j1, 0)).2.2 ≠ 0 := c2
        rw [show (casesEnd bs true p op v1 (headR bs true (j1, 0))) = ((casesEnd bs true p op v1 (headR bs true (j1, 0))).1, (headR bs true (j1, 0)).2) from Prod.ext rfl (casesEnd_err he)]
        refine .inr ⟨rfl, he, ?_, c3.2⟩
        have := c3.1
        show i ≤ (headR bs true (j1, 0)).2.1
        simp only at this
        omega
    · rw [b1]
      have he : (headR bs true (numR bs true 4 (j0, 0)).2).2 = (numR bs true 4 (j0, 0)).2 := headR_err b2
      have hc : (casesEnd bs true p op (numR bs true 4 (j0, 0)).1 (headR bs true (numR bs true 4 (j0, 0)).2)).2 = (numR bs true 4 (j0, 0)).2 := by rw [casesEnd_err (by rw [he]; exact b2), he]
      exact .inr ⟨rfl, by rw [hc]; exact b2, by rw [hc]; omega, by rw [hc]; exact b3.2⟩
  · rw [a1]
    simp only at a2 a3
    rw [numR_err bs true 4 a2]
    simp only
    have he : (headR bs true (padR bs (padOf p) (i, 0))).2 = padR bs (padOf p) (i, 0) := headR_err a2
    have hc : (casesEnd bs true p op 0 (headR bs true (padR bs (padOf p) (i, 0)))).2 = padR bs (padOf p) (i, 0) := by rw [casesEnd_err (by rw [he]; exact a2), he]
    exact .inr ⟨rfl, by rw [hc]; exact a2, by rw [hc]; exact a3.1, by rw [hc]; exact a3.2⟩

/-! ### One -/
def opR (bs : List UInt8) (p : Nat) (op : Int) (s : Nat × Int) : Ins × Nat × Int := match form op with
  | 1 => (⟨p, op, 0, 0, []⟩, s)
  | 2 => (⟨p, op, (numR bs true 1 s).1, 0, []⟩, (numR bs true 1 s).2)
  | 3 => (⟨p, op, (numR bs true 2 s).1, 0, []⟩, (numR bs true 2 s).2)
  | 4 => (⟨p, op, (numR bs false 1 s).1, 0, []⟩, (numR bs false 1 s).2)
  | 5 => (⟨p, op, (numR bs false 2 s).1, 0, []⟩, (numR bs false 2 s).2)
  | 6 => (⟨p, op, (numR bs false 1 s).1, (numR bs true 1 (numR bs false 1 s).2).1, []⟩, (numR bs true 1 (numR bs false 1 s).2).2)
  | 7 => (⟨p, op, p + (numR bs true 2 s).1, 0, []⟩, (numR bs true 2 s).2)
  | 8 => casesR bs false p op s
  | 9 => casesR bs true p op s
  | _ => (⟨p, op, 0, 0, []⟩, stopR 1 true s)
theorem says_op (bs : List UInt8) (p : Nat) (op : Int) (i : Nat) (hi : i ≤ bs.length) : Says bs i ((opF p op).parse (bs.drop i)) (opR bs p op (i, 0)) := by
  unfold opF opR
  generalize form op = f
  match f with
  | 1 => exact .inl ⟨_, i, rfl, rfl, Nat.le_refl _, hi⟩
  | 2 => exact says_via (fun a => (⟨p, op, a, 0, []⟩ : Ins)) (·.a) (fun _ _ => rfl) (says_num bs true 1 w1 i hi)
  | 3 => exact says_via (fun a => (⟨p, op, a, 0, []⟩ : Ins)) (·.a) (fun _ _ => rfl) (says_num bs true 2 w2 i hi)
  | 4 => exact says_via (fun a => (⟨p, op, a, 0, []⟩ : Ins)) (·.a) (fun _ _ => rfl) (says_num bs false 1 w1 i hi)
  | 5 => exact says_via (fun a => (⟨p, op, a, 0, []⟩ : Ins)) (·.a) (fun _ _ => rfl) (says_num bs false 2 w2 i hi)
  | 6 =>
    refine says_via (F := dseq (num 1 false w1) fun _ => num 1 true w1) (fun x => (⟨p, op, x.1, x.2, []⟩ : Ins)) (fun y => (y.a, y.b)) (fun _ _ => rfl)
      (Says.trans (r := fun q => numR bs true 1 q.2) (says_num bs false 1 w1 i hi) (fun v j _ hj => says_num bs true 1 w1 j hj) fun h => ?_)
    rw [numR_err bs true 1 h]
  | 7 => exact says_via (fun d => (⟨p, op, p + d, 0, []⟩ : Ins)) (fun y => y.a - p) (fun x _ => by show (p : Int) + x - p = x; omega) (says_num bs true 2 w2 i hi)
  | 8 => exact says_tab bs p op i hi
  | 9 => exact says_sch bs p op i hi
  | 0 => exact .inr ⟨rfl, (show (1 : Int) ≠ 0 by decide), Nat.le_refl _, hi⟩
  | n + 10 => exact .inr ⟨rfl, (show (1 : Int) ≠ 0 by decide), Nat.le_refl _, hi⟩
def oneR (bs : List UInt8) (s : Nat × Int) : Ins × Nat × Int := opR bs s.1 (numR bs false 1 s).1 (numR bs false 1 s).2
theorem numR_zero (bs : List UInt8) (sign : Bool) (k : Nat) (hk : wide (k : Int) = true) (i : Nat) (hi : i ≤ bs.length) (h : (numR bs sign k (i, 0)).2.2 ≠ 0) : (numR bs sign k (i, 0)).1 = 0 := by
  unfold numR at h ⊢
  rw [if_pos rfl] at h ⊢
  rcases get_num k sign hk bs i hi with ⟨v, h1, h2, h3⟩ | ⟨h1, e, he, h2⟩
  · rw [h2] at h
    exact absurd rfl h
  · rw [h2]
theorem says_one (bs : List UInt8) (i : Nat) (hi : i ≤ bs.length) : Says bs i ((insF i).parse (bs.drop i)) (oneR bs (i, 0)) := by
  have h := says_via (β := Ins) (F := dseq (num 1 false w1) (opF i)) (·.2) (fun y => (y.op, y)) (fun x h => by
    obtain ⟨t, y⟩ := x
    have := (opF_is h.2).2.1
    simp only at this
    rw [this])
    (Says.trans (r := fun q => opR bs i q.1 q.2) (says_num bs false 1 w1 i hi) (fun v j _ hj => says_op bs i v j hj) fun h => by
      rw [numR_zero bs false 1 w1 i hi h]
      rfl)
  exact h

/-! ### All -/
def codeR (bs : List UInt8) : Nat → List Ins → Nat × Int → List Ins × Nat × Int
  | 0, acc, s => (acc, s)
  | f + 1, acc, s => if s.1 < bs.length ∧ s.2 = 0 then codeR bs f (acc ++ [(oneR bs s).1]) (oneR bs s).2 else (acc, s)
theorem codeR_stop {bs : List UInt8} {f : Nat} {acc : List Ins} {s : Nat × Int} (h : ¬ (s.1 < bs.length ∧ s.2 = 0)) : codeR bs f acc s = (acc, s) := by
  cases f with
  | zero => rfl
  | succ f => unfold codeR; rw [if_neg h]
theorem one_step {bs : List UInt8} {i j : Nat} {x : Ins} (hj : j ≤ bs.length) (h : (insF i).parse (bs.drop i) = some (x, bs.drop j)) : i + 1 ≤ j ∧ j - i = ((insF i).enc x).length := by
  have h1 := insF_pos i x
  have h2 := congrArg List.length ((insF i).bwd _ _ _ h).2
  rw [List.length_append, List.length_drop, List.length_drop] at h2
  omega
theorem code_says (bs : List UInt8) : ∀ (f : Nat) (acc : List Ins) (i : Nat), i ≤ bs.length → bs.length ≤ f + i →
    (∃ l, loopP f i (bs.drop i) = some l ∧ codeR bs f acc (i, 0) = (acc ++ l, bs.length, 0)) ∨ (loopP f i (bs.drop i) = none ∧ (codeR bs f acc (i, 0)).2.2 ≠ 0 ∧ (codeR bs f acc (i, 0)).2.1 ≤ bs.length)
  | 0, acc, i, hi, hf => by
    have : i = bs.length := by omega
    subst this
    refine .inl ⟨[], ?_, by simp [codeR]⟩
    unfold loopP
    rw [if_pos (by simp)]
  | f + 1, acc, i, hi, hf => by
    unfold loopP codeR
    by_cases h0 : i = bs.length
    · subst h0
      rw [if_pos (by simp), if_neg (by simp)]
      exact .inl ⟨[], rfl, by simp⟩
    rw [if_neg (by simp; omega), if_pos ⟨by show i < bs.length; omega, rfl⟩]
    rcases says_one bs i hi with ⟨v, j, e1, e2, e3, e4⟩ | ⟨e1, e2, e3⟩
    · obtain ⟨h1, h2⟩ := one_step e4 e1
      rw [e1, e2, Option.bind_some]
      simp only
      have hj : i + ((bs.drop i).length - (bs.drop j).length) = j := by
        rw [List.length_drop, List.length_drop]
        omega
      rw [hj]
      rcases code_says bs f (acc ++ [v]) j e4 (by omega) with ⟨l, f1, f2⟩ | ⟨f1, f2⟩
      · refine .inl ⟨v :: l, by rw [f1]; rfl, ?_⟩
        rw [f2, List.append_assoc]
        rfl
      · exact .inr ⟨by rw [f1]; rfl, f2⟩
    · rw [e1, codeR_stop (fun h => e2 h.2)]
      exact .inr ⟨rfl, e2, e3.2⟩
/-- What the bytes are. -/
theorem dec_says (bs : List UInt8) : dec bs = if (codeR bs bs.length [] (0, 0)).2.2 = 0 ∧ (codeR bs bs.length [] (0, 0)).1 ≠ [] ∧ leads (codeR bs bs.length [] (0, 0)).1 = true then some (codeR bs bs.length [] (0, 0)).1 else none := by
  unfold dec
  rcases code_says bs bs.length [] 0 (Nat.zero_le _) (by omega) with ⟨l, h1, h2⟩ | ⟨h1, h2, _⟩
  · rw [List.drop_zero] at h1
    rw [h1, h2, Option.bind_some, List.nil_append]
    simp only [true_and]
  · rw [List.drop_zero] at h1
    rw [h1, if_neg (fun h => h2 h.1)]
    rfl
end Go.Proofs.Ytcpeekeiflglpaa.Code
