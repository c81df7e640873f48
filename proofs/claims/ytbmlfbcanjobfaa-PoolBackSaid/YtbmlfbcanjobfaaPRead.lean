/- Plain mathematics of pools: what the reader says, in the words of the format. No program in sight. -/
import Derived.Test.YtbmlfbcanjobfaaPFmt
import Derived.Test.YtbmlfbcanjobfaaWRef2
import Derived.Test.YtbmlfbcanjobfaaPWalk8
namespace Go.Proofs.Ytbmlfbcanjobfaa.Pool
open Go Go.Proofs.Ytbmlfbcanjobfaa.Eng Go.Proofs.Ytbmlfbcanjobfaa.Word Go.Proofs.Ytbmlfbcanjobfaa.Fmt
set_option maxRecDepth 10000

/-- A number read, unless there was an error. -/
def numR (bs : List UInt8) (sign : Bool) (k : Nat) (s : Nat × Int) : Int × Nat × Int :=
  if s.2 = 0 then ((get sign bs s.1 k).1, (get sign bs s.1 k).2.2, (get sign bs s.1 k).2.1) else (0, s.1, s.2)
def textR (bs : List UInt8) (t : Int) (n : Int × Nat × Int) : Ent × Nat × Int :=
  if n.2.2 = 0 then (⟨t, (getB bs n.2.1 n.1).1, 0, 0, 0⟩, (getB bs n.2.1 n.1).2.2, (getB bs n.2.1 n.1).2.1) else (⟨t, [], 0, 0, 0⟩, n.2)
def bodyR (bs : List UInt8) (t : Int) (s : Nat × Int) : Ent × Nat × Int :=
  if t = 1 then textR bs t (numR bs false 2 s)
  else if t = 3 then (⟨t, [], (numR bs true 4 s).1, 0, 0⟩, (numR bs true 4 s).2)
  else if t = 5 then (⟨t, [], (numR bs true 8 s).1, 0, 0⟩, (numR bs true 8 s).2)
  else if t = 9 ∨ t = 10 ∨ t = 12 then (⟨t, [], 0, (numR bs false 2 s).1, (numR bs false 2 (numR bs false 2 s).2).1⟩, (numR bs false 2 (numR bs false 2 s).2).2)
  else if t = 7 then (⟨t, [], 0, (numR bs false 2 s).1, 0⟩, (numR bs false 2 s).2)
  else (⟨t, [], 0, 0, 0⟩, s.1, 70)
def entR (bs : List UInt8) (s : Nat × Int) : Ent × Nat × Int :=
  if (numR bs false 1 s).2.2 = 0 then bodyR bs (numR bs false 1 s).1 (numR bs false 1 s).2 else (⟨(numR bs false 1 s).1, [], 0, 0, 0⟩, (numR bs false 1 s).2)
def loopR (bs : List UInt8) (n : Int) : Nat → List Ent → Nat × Int → List Ent × Nat × Int
  | 0, acc, s => (acc, s)
  | f + 1, acc, s => if (acc.length : Int) < n ∧ s.2 = 0 then loopR bs n f (acc ++ (entR bs s).1 :: tailOf (entR bs s).1) (entR bs s).2 else (acc, s)
/-- What stands behind the number of entries. -/
def readEnd (n : Int) (q : List Ent × Nat × Int) : List Ent × Nat × Int :=
  if q.2.2 ≠ 0 then ([], q.2) else if n < (q.1.length : Int) then ([], q.2.1, 70) else if okB q.1 = true then q else ([], q.2.1, 70)
def readR (bs : List UInt8) (i : Nat) : List Ent × Nat × Int :=
  if (numR bs false 2 (i, 0)).2.2 ≠ 0 then ([], (numR bs false 2 (i, 0)).2)
  else if (numR bs false 2 (i, 0)).1 < 1 ∨ 1024 < (numR bs false 2 (i, 0)).1 then ([], (numR bs false 2 (i, 0)).2.1, 70)
  else readEnd (numR bs false 2 (i, 0)).1 (loopR bs (numR bs false 2 (i, 0)).1 (numR bs false 2 (i, 0)).1.toNat [e0] (numR bs false 2 (i, 0)).2)

/-! ### Against the format -/
/-- A reading that is what a format says. -/
def Says {α : Type} (bs : List UInt8) (i : Nat) (p : Option (α × List UInt8)) (q : α × Nat × Int) : Prop :=
  (∃ v j, p = some (v, bs.drop j) ∧ q = (v, j, 0) ∧ i ≤ j ∧ j ≤ bs.length) ∨ (p = none ∧ q.2.2 ≠ 0 ∧ i ≤ q.2.1 ∧ q.2.1 ≤ bs.length)
theorem says_num (bs : List UInt8) (sign : Bool) (k : Nat) (hk : wide (k : Int) = true) (i : Nat) (hi : i ≤ bs.length) : Says bs i ((num k sign hk).parse (bs.drop i)) (numR bs sign k (i, 0)) := by
  unfold numR
  rw [if_pos rfl]
  rcases get_num k sign hk bs i hi with ⟨v, h1, h2, h3⟩ | ⟨h1, e, he, h2⟩
  · exact .inl ⟨v, i + k, h1, by rw [h2], by omega, h3⟩
  · refine .inr ⟨h1, ?_, ?_, ?_⟩ <;> rw [h2]
    · exact he
    · exact Nat.le_refl _
    · exact hi
theorem numR_err (bs : List UInt8) (sign : Bool) (k : Nat) {s : Nat × Int} (h : s.2 ≠ 0) : numR bs sign k s = (0, s) := by unfold numR; rw [if_neg h]
theorem says_via {α β : Type} {bs : List UInt8} {i : Nat} {F : Fmt α} (to : α → β) (from_ : β → α) (h1 : ∀ x, F.ok x → from_ (to x) = x) {q : α × Nat × Int} (h : Says bs i (F.parse (bs.drop i)) q) : Says bs i ((via F to from_ h1).parse (bs.drop i)) (to q.1, q.2) := by
  rcases h with ⟨v, j, e1, e2, e3, e4⟩ | ⟨e1, e2⟩
  · refine .inl ⟨to v, j, ?_, by rw [e2], e3, e4⟩
    show (F.parse (bs.drop i)).map _ = _
    rw [e1]
    rfl
  · refine .inr ⟨?_, e2⟩
    show (F.parse (bs.drop i)).map _ = _
    rw [e1]
    rfl
theorem Says.trans {α β : Type} {bs : List UInt8} {i : Nat} {F : Fmt α} {G : α → Fmt β} {q : α × Nat × Int} {r : α × Nat × Int → β × Nat × Int} (h : Says bs i (F.parse (bs.drop i)) q)
    (hr : ∀ v j, i ≤ j → j ≤ bs.length → Says bs j ((G v).parse (bs.drop j)) (r (v, j, 0))) (he : q.2.2 ≠ 0 → (r q).2 = q.2) : Says bs i ((dseq F G).parse (bs.drop i)) ((q.1, (r q).1), (r q).2) := by
  have hp : (dseq F G).parse (bs.drop i) = (F.parse (bs.drop i)).bind fun p => ((G p.1).parse p.2).map fun q => ((p.1, q.1), q.2) := by
    rfl
  rw [hp]
  rcases h with ⟨v, j, e1, e2, e3, e4⟩ | ⟨e1, e2, e3⟩
  · subst e2
    rw [e1, Option.bind_some]
    rcases hr v j e3 e4 with ⟨u, k, f1, f2, f3, f4⟩ | ⟨f1, f2, f3, f4⟩
    · refine .inl ⟨(v, u), k, ?_, by rw [f2], by omega, f4⟩
      simp only
      rw [f1]
      rfl
    · refine .inr ⟨?_, f2, by simp only; omega, f4⟩
      simp only
      rw [f1]
      rfl
  · rw [e1]
    refine .inr ⟨rfl, ?_, ?_, ?_⟩ <;> simp only [he e2]
    · exact e2
    · exact e3.1
    · exact e3.2
theorem says_text (bs : List UInt8) (i : Nat) (hi : i ≤ bs.length) (t : Int) : Says bs i ((via (text 2 w2) (fun s => (⟨t, s, 0, 0, 0⟩ : Ent)) (·.text) (fun _ _ => rfl)).parse (bs.drop i)) (textR bs t (numR bs false 2 (i, 0))) := by
  have hp : (via (text 2 w2) (fun s => (⟨t, s, 0, 0, 0⟩ : Ent)) (·.text) (fun _ _ => rfl)).parse (bs.drop i) = ((numP 2 false (bs.drop i)).bind fun p => rawP p.1 p.2).map fun p => (⟨t, p.1, 0, 0, 0⟩, p.2) := rfl
  rw [hp]
  rcases says_num bs false 2 w2 i hi with ⟨v, j, e1, e2, e3, e4⟩ | ⟨e1, e2, e3⟩
  · change numP 2 false (bs.drop i) = _ at e1
    rw [e1, e2, Option.bind_some]
    unfold textR rawP getB
    rw [if_pos rfl]
    simp only [List.length_drop]
    by_cases h0 : v < 0
    · rw [if_pos (.inl h0), if_pos h0]
      exact .inr ⟨rfl, by simp, e3, e4⟩
    by_cases h1 : (bs.length : Int) - j < v
    · rw [if_pos (.inr (by omega)), if_neg h0, if_pos h1]
      exact .inr ⟨rfl, by simp, e3, e4⟩
    · rw [if_neg (by omega), if_neg h0, if_neg h1]
      exact .inl ⟨_, j + v.toNat, by rw [List.drop_drop]; rfl, rfl, by omega, by omega⟩
  · change numP 2 false (bs.drop i) = _ at e1
    rw [e1]
    unfold textR
    rw [if_neg e2]
    exact .inr ⟨rfl, e2, e3⟩
theorem says_body (bs : List UInt8) (t : Int) (i : Nat) (hi : i ≤ bs.length) : Says bs i ((bodyF t).parse (bs.drop i)) (bodyR bs t (i, 0)) := by
  unfold bodyF bodyR
  by_cases h1 : t = 1
  · rw [if_pos h1, if_pos h1]
    exact says_text bs i hi t
  rw [if_neg h1, if_neg h1]
  by_cases h3 : t = 3
  · rw [if_pos h3, if_pos h3]
    exact says_via (fun n => (⟨t, [], n, 0, 0⟩ : Ent)) (·.n) (fun _ _ => rfl) (says_num bs true 4 w4 i hi)
  rw [if_neg h3, if_neg h3]
  by_cases h5 : t = 5
  · rw [if_pos h5, if_pos h5]
    exact says_via (fun n => (⟨t, [], n, 0, 0⟩ : Ent)) (·.n) (fun _ _ => rfl) (says_num bs true 8 w8 i hi)
  rw [if_neg h5, if_neg h5]
  by_cases h9 : t = 9 ∨ t = 10 ∨ t = 12
  · rw [if_pos h9, if_pos h9]
    refine says_via (F := dseq (num 2 false w2) fun _ => num 2 false w2) (fun p => (⟨t, [], 0, p.1, p.2⟩ : Ent)) (fun x => (x.a, x.b)) (fun _ _ => rfl)
      (Says.trans (r := fun q => numR bs false 2 q.2) (says_num bs false 2 w2 i hi) (fun v j _ hj => says_num bs false 2 w2 j hj) fun h => ?_)
    rw [numR_err bs false 2 h]
  rw [if_neg h9, if_neg h9]
  by_cases h7 : t = 7
  · rw [if_pos h7, if_pos h7]
    exact says_via (fun n => (⟨t, [], 0, n, 0⟩ : Ent)) (·.a) (fun _ _ => rfl) (says_num bs false 2 w2 i hi)
  rw [if_neg h7, if_neg h7]
  exact .inr ⟨rfl, by simp, Nat.le_refl _, hi⟩
theorem says_ent (bs : List UInt8) (i : Nat) (hi : i ≤ bs.length) : Says bs i (entF.parse (bs.drop i)) (entR bs (i, 0)) := by
  have h := says_via (β := Ent) (F := dseq (num 1 false w1) bodyF) (·.2) (fun x => (x.tag, x)) (fun p h => by
    obtain ⟨t, x⟩ := p
    have := (body_tag h.2).1
    simp only at this
    rw [this])
    (Says.trans (r := fun q => if q.2.2 = 0 then bodyR bs q.1 q.2 else (⟨q.1, [], 0, 0, 0⟩, q.2)) (says_num bs false 1 w1 i hi) (fun v j _ hj => by
      simp only [↓reduceIte]
      exact says_body bs v j hj) fun h => by rw [if_neg h])
  exact h
theorem loop_says (bs : List UInt8) (n : Nat) : ∀ (f : Nat) (acc : List Ent) (i : Nat), i ≤ bs.length → n ≤ f + acc.length → Says bs i (loopP n f acc (bs.drop i)) (loopR bs n f acc (i, 0))
  | 0, acc, i, hi, hf => by
    unfold loopP loopR
    rw [if_neg (by omega)]
    exact .inl ⟨acc, i, rfl, rfl, Nat.le_refl _, hi⟩
  | f + 1, acc, i, hi, hf => by
    unfold loopP loopR
    by_cases hl : acc.length < n
    · rw [if_pos hl, if_pos ⟨by omega, rfl⟩]
      rcases says_ent bs i hi with ⟨v, j, e1, e2, e3, e4⟩ | ⟨e1, e2, e3⟩
      · rw [e1, e2, Option.bind_some]
        simp only
        rcases loop_says bs n f (acc ++ v :: tailOf v) j e4 (by rw [List.length_append, List.length_cons]; omega) with ⟨u, k, f1, f2, f3, f4⟩ | ⟨f1, f2, f3, f4⟩
        · exact .inl ⟨u, k, f1, f2, by omega, f4⟩
        · exact .inr ⟨f1, f2, by omega, f4⟩
      · rw [e1]
        refine .inr ⟨rfl, ?_⟩
        have : ∀ (f : Nat) acc s, s.2 ≠ 0 → (loopR bs n f acc s).2 = s := by
          intro f acc s hs
          cases f with
          | zero => rfl
          | succ f => unfold loopR; rw [if_neg fun h => hs h.2]
        rw [this _ _ _ e2]
        exact ⟨e2, e3⟩
    · rw [if_neg hl, if_neg fun h => hl (by omega)]
      exact .inl ⟨acc, i, rfl, rfl, Nat.le_refl _, hi⟩
theorem read_says (bs : List UInt8) (i : Nat) (hi : i ≤ bs.length) : Says bs i (poolP (bs.drop i)) (readR bs i) := by
  unfold poolP readR
  rcases says_num bs false 2 w2 i hi with ⟨v, j, e1, e2, e3, e4⟩ | ⟨e1, e2, e3⟩
  · change numP 2 false (bs.drop i) = _ at e1
    rw [e1, e2, Option.bind_some]
    simp only
    rw [if_neg (show ¬ (0 : Int) ≠ 0 by simp)]
    by_cases hv : v < 1 ∨ 1024 < v
    · rw [if_pos hv, if_pos hv]
      exact .inr ⟨rfl, by simp, e3, e4⟩
    rw [if_neg hv, if_neg hv]
    obtain ⟨n, rfl⟩ : ∃ n : Nat, v = n := ⟨v.toNat, by omega⟩
    rw [Int.toNat_natCast]
    rcases loop_says bs n n [e0] j e4 (by simp) with ⟨u, k, f1, f2, f3, f4⟩ | ⟨f1, f2, f3, f4⟩
    · rw [f1, f2, Option.bind_some]
      unfold readEnd
      simp only
      rw [if_neg (show ¬ (0 : Int) ≠ 0 by simp)]
      by_cases hn : (n : Int) < (u.length : Int)
      · rw [if_pos hn, if_neg (by omega)]
        exact .inr ⟨rfl, by simp, by simp only; omega, f4⟩
      rw [if_neg hn]
      by_cases ho : okB u = true
      · rw [if_pos ho, if_pos ⟨by omega, ho⟩]
        exact .inl ⟨u, k, rfl, rfl, by omega, f4⟩
      · rw [if_neg ho, if_neg fun h => ho h.2]
        exact .inr ⟨rfl, by simp, by simp only; omega, f4⟩
    · rw [f1]
      unfold readEnd
      rw [if_pos f2]
      exact .inr ⟨rfl, f2, by simp only; omega, f4⟩
  · change numP 2 false (bs.drop i) = _ at e1
    rw [e1, if_pos e2]
    exact .inr ⟨rfl, e2, e3⟩
theorem readR_err {bs : List UInt8} {i : Nat} (h : (readR bs i).2.2 ≠ 0) : (readR bs i).1 = [] := by
  unfold readR at h ⊢
  split at h
  · rename_i h1; rw [if_pos h1]
  rename_i h1
  rw [if_neg h1]
  split at h
  · rename_i h2; rw [if_pos h2]
  rename_i h2
  rw [if_neg h2]
  unfold readEnd at h ⊢
  split at h
  · rename_i h3; rw [if_pos h3]
  rename_i h3
  rw [if_neg h3]
  split at h
  · rename_i h4; rw [if_pos h4]
  rename_i h4
  rw [if_neg h4]
  split at h
  · exact absurd (Decidable.not_not.1 h3) h
  · rename_i h5; rw [if_neg h5]
/-! ### Everything read is of 64 bits -/
theorem numR_i64 (bs : List UInt8) (sign : Bool) (k : Nat) (hk : wide (k : Int) = true) (s : Nat × Int) (hs : s.1 ≤ bs.length) : I64 (numR bs sign k s).1 ∧ s.1 ≤ (numR bs sign k s).2.1 ∧ (numR bs sign k s).2.1 ≤ bs.length := by
  by_cases h : s.2 = 0
  · obtain ⟨i, er⟩ := s
    simp only at h hs
    subst h
    rcases says_num bs sign k hk i hs with ⟨v, j, e1, e2, e3, e4⟩ | ⟨e1, e2, e3⟩
    · rw [e2]
      exact ⟨((num k sign hk).bwd _ _ _ e1).1.2, e3, e4⟩
    · refine ⟨?_, e3⟩
      have : (numR bs sign k (i, 0)).1 = 0 := by
        unfold numR at e2 ⊢
        rw [if_pos rfl] at e2 ⊢
        rcases get_num k sign hk bs i hs with ⟨v, h1, h2, h3⟩ | ⟨h1, e, he, h2⟩
        · rw [h2] at e2; exact absurd rfl e2
        · rw [h2]
      rw [this]
      exact i0
  · rw [numR_err bs sign k h]
    exact ⟨i0, Nat.le_refl _, hs⟩
theorem getB_le (bs : List UInt8) (i : Nat) (n : Int) (hi : i ≤ bs.length) : (getB bs i n).1.length ≤ bs.length ∧ i ≤ (getB bs i n).2.2 ∧ (getB bs i n).2.2 ≤ bs.length := by
  unfold getB
  split
  · exact ⟨by simp, Nat.le_refl _, hi⟩
  split
  · exact ⟨by simp, Nat.le_refl _, hi⟩
  · refine ⟨by simp only [List.length_take, List.length_drop]; omega, by simp only; omega, by simp only; omega⟩
theorem bodyR_ok (bs : List UInt8) (t : Int) (s : Nat × Int) (ht : I64 t) (hs : s.1 ≤ bs.length) (hb : bs.length ≤ 9223372036854775807) : EntOk (bodyR bs t s).1 ∧ s.1 ≤ (bodyR bs t s).2.1 ∧ (bodyR bs t s).2.1 ≤ bs.length := by
  unfold bodyR
  split
  · obtain ⟨h1, h2, h3⟩ := numR_i64 bs false 2 w2 s hs
    unfold textR
    split
    · obtain ⟨g1, g2, g3⟩ := getB_le bs (numR bs false 2 s).2.1 (numR bs false 2 s).1 h3
      exact ⟨⟨ht, by simp only; omega, i0, i0, i0⟩, by simp only; omega, g3⟩
    · exact ⟨⟨ht, by simp, i0, i0, i0⟩, h2, h3⟩
  split
  · obtain ⟨h1, h2, h3⟩ := numR_i64 bs true 4 w4 s hs
    exact ⟨⟨ht, by simp, h1, i0, i0⟩, h2, h3⟩
  split
  · obtain ⟨h1, h2, h3⟩ := numR_i64 bs true 8 w8 s hs
    exact ⟨⟨ht, by simp, h1, i0, i0⟩, h2, h3⟩
  split
  · obtain ⟨h1, h2, h3⟩ := numR_i64 bs false 2 w2 s hs
    obtain ⟨g1, g2, g3⟩ := numR_i64 bs false 2 w2 (numR bs false 2 s).2 h3
    exact ⟨⟨ht, by simp, i0, h1, g1⟩, Nat.le_trans h2 g2, g3⟩
  split
  · obtain ⟨h1, h2, h3⟩ := numR_i64 bs false 2 w2 s hs
    exact ⟨⟨ht, by simp, i0, h1, i0⟩, h2, h3⟩
  · exact ⟨⟨ht, by simp, i0, i0, i0⟩, Nat.le_refl _, hs⟩
theorem entR_ok (bs : List UInt8) (s : Nat × Int) (hs : s.1 ≤ bs.length) (hb : bs.length ≤ 9223372036854775807) : EntOk (entR bs s).1 ∧ s.1 ≤ (entR bs s).2.1 ∧ (entR bs s).2.1 ≤ bs.length := by
  obtain ⟨h1, h2, h3⟩ := numR_i64 bs false 1 w1 s hs
  unfold entR
  split
  · obtain ⟨g1, g2, g3⟩ := bodyR_ok bs (numR bs false 1 s).1 (numR bs false 1 s).2 h1 h3 hb
    exact ⟨g1, Nat.le_trans h2 g2, g3⟩
  · exact ⟨⟨h1, by simp, i0, i0, i0⟩, h2, h3⟩
end Go.Proofs.Ytbmlfbcanjobfaa.Pool
