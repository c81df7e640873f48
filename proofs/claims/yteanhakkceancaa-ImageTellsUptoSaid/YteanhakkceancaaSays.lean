/- What readers say against formats, and what their acts leave: shared by the packages that read. -/
import Derived.Test.YteanhakkceancaaFmt
import Derived.Test.YteanhakkceancaaWRead
import Derived.Test.YteanhakkceancaaCell
namespace Go.Proofs.Yteanhakkceancaa.Pool
open Go Go.Proofs.Yteanhakkceancaa Go.Proofs.Yteanhakkceancaa.Eng Go.Proofs Go.Proofs.Yteanhakkceancaa.Word Go.Proofs.Yteanhakkceancaa.Fmt
set_option maxRecDepth 10000

/-- A number read, unless there was an error. -/
def numR (bs : List UInt8) (sign : Bool) (k : Nat) (s : Nat × Int) : Int × Nat × Int :=
  if s.2 = 0 then ((get sign bs s.1 k).1, (get sign bs s.1 k).2.2, (get sign bs s.1 k).2.1) else (0, s.1, s.2)
/-- A reading that is what a format says. -/
def Says {α : Type} (bs : List UInt8) (i : Nat) (p : Option (α × List UInt8)) (q : α × Nat × Int) : Prop :=
  (∃ v j, p = some (v, bs.drop j) ∧ q = (v, j, 0) ∧ i ≤ j ∧ j ≤ bs.length) ∨ (p = none ∧ q.2.2 ≠ 0 ∧ i ≤ q.2.1 ∧ q.2.1 ≤ bs.length)
theorem says_num (bs : List UInt8) (sign : Bool) (k : Nat) (hk : wide (k : Int) = true) (i : Nat) (hi : i ≤ bs.length) : Says bs i ((num k sign hk).parse (bs.drop i)) (numR bs sign k (i, 0)) := by
  unfold numR
  rw [if_pos rfl]
  rcases get_num k sign hk bs i hi with ⟨v, h1, h2, h3⟩ | ⟨h1, e, he, h2⟩
  · exact .inl ⟨v, i + k, h1, by rw [h2], by omega, h3⟩
  · refine .inr ⟨h1, ?_, ?_, ?_⟩ <;> rw [h2]
    · exact he
    · exact Nat.le_refl _
    · exact hi
theorem numR_err (bs : List UInt8) (sign : Bool) (k : Nat) {s : Nat × Int} (h : s.2 ≠ 0) : numR bs sign k s = (0, s) := by unfold numR; rw [if_neg h]
theorem says_via {α β : Type} {bs : List UInt8} {i : Nat} {F : Fmt α} (to : α → β) (from_ : β → α) (h1 : ∀ x, F.ok x → from_ (to x) = x) {q : α × Nat × Int} (h : Says bs i (F.parse (bs.drop i)) q) : Says bs i ((via F to from_ h1).parse (bs.drop i)) (to q.1, q.2) := by
  rcases h with ⟨v, j, e1, e2, e3, e4⟩ | ⟨e1, e2⟩
  · refine .inl ⟨to v, j, ?_, by rw [e2], e3, e4⟩
    show (F.parse (bs.drop i)).map _ = _
    rw [e1]
    rfl
  · refine .inr ⟨?_, e2⟩
    show (F.parse (bs.drop i)).map _ = _
    rw [e1]
    rfl
theorem Says.trans {α β : Type} {bs : List UInt8} {i : Nat} {F : Fmt α} {G : α → Fmt β} {q : α × Nat × Int} {r : α × Nat × Int → β × Nat × Int} (h : Says bs i (F.parse (bs.drop i)) q)
    (hr : ∀ v j, i ≤ j → j ≤ bs.length → Says bs j ((G v).parse (bs.drop j)) (r (v, j, 0))) (he : q.2.2 ≠ 0 → (r q).2 = q.2) : Says bs i ((dseq F G).parse (bs.drop i)) ((q.1, (r q).1), (r q).2) := by
  have hp : (dseq F G).parse (bs.drop i) = (F.parse (bs.drop i)).bind fun p => ((G p.1).parse p.2).map fun q => ((p.1, q.1), q.2) := by
    rfl
  rw [hp]
  rcases h with ⟨v, j, e1, e2, e3, e4⟩ | ⟨e1, e2, e3⟩
  · subst e2
    rw [e1, Option.bind_some]
    rcases hr v j e3 e4 with ⟨u, k, f1, f2, f3, f4⟩ | ⟨f1, f2, f3, f4⟩
    · refine .inl ⟨(v, u), k, ?_, by rw [f2], by omega, f4⟩
      simp only
      rw [f1]
      rfl
    · refine .inr ⟨?_, f2, by simp only; omega, f4⟩
      simp only
      rw [f1]
      rfl
  · rw [e1]
    refine .inr ⟨rfl, ?_, ?_, ?_⟩ <;> simp only [he e2]
    · exact e2
    · exact e3.1
    · exact e3.2
theorem rd_modN {S : Nat → Prop} {w w' : World} {g : Nat} {A : Option Addr} {c : Nat} {bs : List UInt8} {i : Nat} (h : Rd w g A c bs i) (k : Mod S w w') (hg : ¬ S g) (ha : ∀ a, A = some a → bs ≠ [] → ¬ S a.block) : Rd w' g A c bs i :=
  ⟨k.blk h.blk hg, row_modN h.row k ha, h.off, h.at_, h.cap, h.top⟩
theorem rd_low {w : World} {g : Nat} {A : Option Addr} {c : Nat} {bs : List UInt8} {i : Nat} (h : Rd w g A c bs i) : ∀ a, A = some a → bs ≠ [] → a.block < w.heap.size := row_low h.row
/-- What reading may turn. -/
abbrev RS (h g : Nat) : Nat → Prop := fun b => b = g ∨ b = h
theorem both {S : Nat → Prop} {a b c : World} (h : Mod S a b) (k : Mod S b c) : Mod S a c := Mod.trans h k fun _ _ h => h
theorem own_low {w : World} {b b' : Nat} {e : TypeId} {sz n : Nat} {v : Value} {xs : List Value} (h : w.ownsRow b' e sz v n xs) (hb : b ≤ b') : w.ownsRow b e sz v n xs :=
  ⟨h.1, h.2.imp id fun ⟨g, cap, cur, e, hg, r⟩ => ⟨g, cap, cur, e, Nat.le_trans hb hg, r⟩⟩
end Go.Proofs.Yteanhakkceancaa.Pool
