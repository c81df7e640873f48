/- Plain mathematics of codes: instructions told and read, one behind the other. No program in sight. -/
import Derived.Test.YtcpeekeiflglpaaFmt
namespace Go.Proofs.Ytcpeekeiflglpaa.Code
open Go Go.Proofs.Ytcpeekeiflglpaa.Eng Go.Proofs.Ytcpeekeiflglpaa.Word Go.Proofs.Ytcpeekeiflglpaa.Fmt

structure Cs where
  key : Int
  to : Int
structure Ins where
  p : Int
  op : Int
  a : Int
  b : Int
  cs : List Cs
theorem Cs.iff (x y : Cs) : (x.key = y.key ∧ x.to = y.to) ↔ x = y := by
  constructor
  · rintro ⟨h1, h2⟩
    cases x; cases y
    simp_all
  · rintro rfl
    exact ⟨rfl, rfl⟩
instance : DecidableEq Cs := fun x y => decidable_of_iff _ (Cs.iff x y)
theorem Ins.iff (x y : Ins) : (x.p = y.p ∧ x.op = y.op ∧ x.a = y.a ∧ x.b = y.b ∧ x.cs = y.cs) ↔ x = y := by
  constructor
  · rintro ⟨h1, h2, h3, h4, h5⟩
    cases x; cases y
    simp_all
  · rintro rfl
    exact ⟨rfl, rfl, rfl, rfl, rfl⟩
instance : DecidableEq Ins := fun x y => decidable_of_iff _ (Ins.iff x y)

/-! ### Forms -/
def inL (op : Int) : List Int → Bool
  | a :: b :: r => (decide (a ≤ op) && decide (op ≤ b)) || inL op r
  | _ => false
def L1 : List Int := [0, 10, 26, 33, 42, 47, 50, 51, 59, 66, 75, 80, 83, 84, 87, 90, 92, 92, 95, 97, 100, 101, 104, 105, 108, 109, 112, 113, 116, 117, 120, 131]
def L2 : List Int := [133, 133, 136, 136, 145, 148, 172, 173, 176, 177, 190, 191, 194, 195]
def L4 : List Int := [18, 18, 21, 22, 25, 25, 54, 55, 58, 58, 188, 188]
def L5 : List Int := [19, 20, 178, 184, 187, 187, 189, 189, 192, 193]
def L7 : List Int := [153, 167, 198, 199]
def form (op : Int) : Nat :=
  if inL op L1 = true then 1 else if inL op L2 = true then 1 else if op = 16 then 2 else if op = 17 then 3 else if inL op L4 = true then 4 else if inL op L5 = true then 5
  else if op = 132 then 6 else if inL op L7 = true then 7 else if op = 170 then 8 else if op = 171 then 9 else 0
def isOne (op : Int) (l : List Int) : Bool := l.any fun x => decide (op = x)
def refForm (op : Int) : Nat :=
  if inL op (L1 ++ L2) = true then 1 else if op = 16 then 2 else if op = 17 then 3 else if isOne op [18, 21, 22, 25, 54, 55, 58, 188] = true then 4
  else if isOne op [19, 20, 178, 179, 180, 181, 182, 183, 184, 187, 189, 192, 193] = true then 5 else if op = 132 then 6 else if op = 170 then 8 else if op = 171 then 9
  else if (153 ≤ op ∧ op ≤ 167) ∨ op = 198 ∨ op = 199 then 7 else 0
theorem forms (op : Int) : refForm op = form op := by
  by_cases h : 0 ≤ op ∧ op ≤ 255
  · obtain ⟨k, rfl⟩ : ∃ k : Nat, op = k := ⟨op.toNat, by omega⟩
    have all : ∀ k : Fin 256, refForm ((k.val : Nat) : Int) = form ((k.val : Nat) : Int) := by decide +kernel
    exact all ⟨k, by omega⟩
  · have lo : ∀ a b : Int, 0 ≤ a → b ≤ 255 → (decide (a ≤ op) && decide (op ≤ b)) = false := fun a b h1 h2 => by
      rcases Classical.em (a ≤ op) with h3 | h3
      · rw [decide_eq_false (show ¬ op ≤ b by omega), Bool.and_false]
      · rw [decide_eq_false h3, Bool.false_and]
    have one : ∀ x : Int, 0 ≤ x → x ≤ 255 → decide (op = x) = false := fun x h1 h2 => decide_eq_false (by omega)
    have e1 : refForm op = 0 := by
      unfold refForm
      rw [if_neg (by simp [L1, L2, inL]; omega), if_neg (by omega), if_neg (by omega), if_neg (by simp [isOne]; omega), if_neg (by simp [isOne]; omega), if_neg (by omega), if_neg (by omega), if_neg (by omega), if_neg (by omega)]
    have e2 : form op = 0 := by
      unfold form
      rw [if_neg (by simp [L1, inL]; omega), if_neg (by simp [L2, inL]; omega), if_neg (by omega), if_neg (by omega), if_neg (by simp [L4, inL]; omega), if_neg (by simp [L5, inL]; omega), if_neg (by omega), if_neg (by simp [L7, inL]; omega), if_neg (by omega), if_neg (by omega)]
    rw [e1, e2]
theorem form_range {op : Int} (h : form op ≠ 0) : 0 ≤ op ∧ op ≤ 255 := by
  rcases Classical.em (0 ≤ op ∧ op ≤ 255) with h' | h'
  · exact h'
  · exfalso
    apply h
    unfold form
    rw [if_neg (by simp [L1, inL]; omega), if_neg (by simp [L2, inL]; omega), if_neg (by omega), if_neg (by omega), if_neg (by simp [L4, inL]; omega), if_neg (by simp [L5, inL]; omega), if_neg (by omega), if_neg (by simp [L7, inL]; omega), if_neg (by omega), if_neg (by omega)]

/-! ### One -/
theorem w1 : wide ((1 : Nat) : Int) = true := by decide
theorem w2 : wide ((2 : Nat) : Int) = true := by decide
theorem w4 : wide ((4 : Nat) : Int) = true := by decide
/-- Noughts. -/
def padF (n : Nat) : Fmt Unit where
  enc _ := List.replicate n 0
  ok _ := True
  parse bs := if bs.length < n then none else if bs.take n = List.replicate n 0 then some ((), bs.drop n) else none
  fwd := by
    intro x q _
    rw [if_neg (by rw [List.length_append, List.length_replicate]; omega), List.take_left' (by simp), if_pos rfl, List.drop_left' (by simp)]
  bwd := by
    intro bs x q h
    split at h
    · cases h
    split at h
    · rename_i he
      cases h
      exact ⟨trivial, by rw [← he, List.take_append_drop]⟩
    · cases h
/-- Just so many. -/
def manyF {α : Type} (n : Nat) (F : Fmt α) : Fmt (List α) where
  enc l := l.flatMap F.enc
  ok l := l.length = n ∧ ∀ x ∈ l, F.ok x
  parse := manyP F n
  fwd := by
    rintro l q ⟨rfl, h⟩
    exact many_fwd F l q h
  bwd := by
    intro bs l q h
    obtain ⟨h1, h2, h3⟩ := many_bwd F n bs l q h
    exact ⟨⟨h1, h2⟩, h3⟩
def padOf (p : Nat) : Nat := 3 - p % 4
def numbered (p low : Int) : List Int → List Cs
  | [] => []
  | t :: l => ⟨low, p + t⟩ :: numbered p (low + 1) l
theorem numbered_length (p : Int) : ∀ (l : List Int) (low : Int), (numbered p low l).length = l.length
  | [], _ => rfl
  | _ :: l, low => by rw [numbered, List.length_cons, List.length_cons, numbered_length p l]
theorem numbered_to (p : Int) : ∀ (l : List Int) (low : Int), (numbered p low l).map (fun c => c.to - p) = l
  | [], _ => rfl
  | t :: l, low => by
    rw [numbered, List.map_cons, numbered_to p l]
    congr 1
    show p + t - p = t
    omega
def riseB : List (Int × Int) → Bool
  | x :: y :: l => decide (x.1 < y.1) && riseB (y :: l)
  | _ => true
def tabF (p : Nat) (op : Int) : Fmt Ins :=
  via (dseq (padF (padOf p)) fun _ => dseq (num 4 true w4) fun _ => dseq (filtF (dseq (num 4 true w4) fun _ => num 4 true w4) fun r => decide (1 ≤ r.2 - r.1 + 1) && decide (r.2 - r.1 + 1 ≤ 256)) fun r => manyF (r.2 - r.1 + 1).toNat (num 4 true w4))
    (fun x => ⟨p, op, p + x.2.1, x.2.2.1.1, numbered p x.2.2.1.1 x.2.2.2⟩)
    (fun y => ((), y.a - p, (y.b, y.b + y.cs.length - 1), y.cs.map fun c => c.to - p))
    (by
      rintro ⟨u, far, ⟨low, high⟩, ts⟩ h
      obtain ⟨_, _, ⟨_, h2⟩, h3, _⟩ := h
      simp only [Bool.and_eq_true, decide_eq_true_eq] at h2
      simp only at h3
      simp only [numbered_length, numbered_to, Prod.mk.injEq, true_and, and_true]
      exact ⟨by omega, by omega⟩)
def schF (p : Nat) (op : Int) : Fmt Ins :=
  via (dseq (padF (padOf p)) fun _ => dseq (num 4 true w4) fun _ => dseq (filtF (num 4 false w4) fun n => decide (n ≤ 256)) fun n => filtF (manyF n.toNat (dseq (num 4 true w4) fun _ => num 4 true w4)) riseB)
    (fun x => ⟨p, op, p + x.2.1, 0, x.2.2.2.map fun r => ⟨r.1, p + r.2⟩⟩)
    (fun y => ((), y.a - p, (y.cs.length : Int), y.cs.map fun c => (c.key, c.to - p)))
    (by
      rintro ⟨u, far, n, ts⟩ h
      obtain ⟨_, _, ⟨h0, _⟩, ⟨h3, _⟩, _⟩ := h
      have hn : 0 ≤ n := by
        have h1 := h0.1
        simp only at h3 h1
        have h2 := h0.2
        simp [Word.fits] at h1
        omega
      simp only at h3
      simp only [List.length_map, List.map_map, Prod.mk.injEq, true_and]
      refine ⟨by omega, by omega, ?_⟩
      have : ((fun c : Cs => (c.key, c.to - (p : Int))) ∘ fun r : Int × Int => (⟨r.1, p + r.2⟩ : Cs)) = id := by
        funext r
        show (r.1, (p : Int) + r.2 - p) = r
        obtain ⟨r1, r2⟩ := r
        simp only [Prod.mk.injEq, true_and]
        omega
      rw [this, List.map_id])
/-- What stands behind an Op, at a place. -/
def opF (p : Nat) (op : Int) : Fmt Ins := match form op with
  | 1 => unit_ ⟨p, op, 0, 0, []⟩
  | 2 => via (num 1 true w1) (fun a => ⟨p, op, a, 0, []⟩) (·.a) (fun _ _ => rfl)
  | 3 => via (num 2 true w2) (fun a => ⟨p, op, a, 0, []⟩) (·.a) (fun _ _ => rfl)
  | 4 => via (num 1 false w1) (fun a => ⟨p, op, a, 0, []⟩) (·.a) (fun _ _ => rfl)
  | 5 => via (num 2 false w2) (fun a => ⟨p, op, a, 0, []⟩) (·.a) (fun _ _ => rfl)
  | 6 => via (dseq (num 1 false w1) fun _ => num 1 true w1) (fun x => ⟨p, op, x.1, x.2, []⟩) (fun y => (y.a, y.b)) (fun _ _ => rfl)
  | 7 => via (num 2 true w2) (fun d => ⟨p, op, p + d, 0, []⟩) (fun y => y.a - p) (fun x _ => by show (p : Int) + x - p = x; omega)
  | 8 => tabF p op
  | 9 => schF p op
  | _ => none_ Ins
theorem opF_is {p : Nat} {op : Int} {x : Ins} (h : (opF p op).ok x) : x.p = p ∧ x.op = op ∧ form op ≠ 0 := by
  unfold opF at h
  split at h
  · rename_i e; cases h; exact ⟨rfl, rfl, by rw [e]; decide⟩
  · rename_i e; rw [← h.1]; exact ⟨rfl, rfl, by rw [e]; decide⟩
  · rename_i e; rw [← h.1]; exact ⟨rfl, rfl, by rw [e]; decide⟩
  · rename_i e; rw [← h.1]; exact ⟨rfl, rfl, by rw [e]; decide⟩
  · rename_i e; rw [← h.1]; exact ⟨rfl, rfl, by rw [e]; decide⟩
  · rename_i e; rw [← h.1]; exact ⟨rfl, rfl, by rw [e]; decide⟩
  · rename_i e; rw [← h.1]; exact ⟨rfl, rfl, by rw [e]; decide⟩
  · rename_i e; rw [← h.1]; exact ⟨rfl, rfl, by rw [e]; decide⟩
  · rename_i e; rw [← h.1]; exact ⟨rfl, rfl, by rw [e]; decide⟩
  · exact h.elim
def insF (p : Nat) : Fmt Ins := via (dseq (num 1 false w1) (opF p)) (·.2) (fun y => (y.op, y)) fun x h => by
  obtain ⟨t, y⟩ := x
  have := (opF_is h.2).2.1
  simp only at this
  rw [this]
theorem insF_is {p : Nat} {x : Ins} (h : (insF p).ok x) : x.p = p ∧ form x.op ≠ 0 := ⟨(opF_is h.2.2).1, (opF_is h.2.2).2.2⟩
theorem insF_pos (p : Nat) (x : Ins) : 1 ≤ ((insF p).enc x).length := by
  show 1 ≤ (enc 1 x.op ++ (opF p x.op).enc x).length
  rw [List.length_append, enc_length]
  omega

/-! ### Many -/
def codeB : Nat → List Ins → List UInt8
  | _, [] => []
  | p, x :: l => (insF p).enc x ++ codeB (p + ((insF p).enc x).length) l
def Chain : Nat → List Ins → Prop
  | _, [] => True
  | p, x :: l => (insF p).ok x ∧ Chain (p + ((insF p).enc x).length) l
/-- All instructions, from a place on. -/
def loopP : Nat → Nat → List UInt8 → Option (List Ins)
  | 0, _, bs => if bs.length = 0 then some [] else none
  | f + 1, p, bs => if bs.length = 0 then some [] else ((insF p).parse bs).bind fun r => (loopP f (p + (bs.length - r.2.length)) r.2).map (r.1 :: ·)
theorem loop_fwd : ∀ (l : List Ins) (f p : Nat), Chain p l → l.length ≤ f → loopP f p (codeB p l) = some l
  | [], f, p, _, _ => by cases f <;> rfl
  | x :: l, f, p, h, hf => by
    obtain ⟨g, rfl⟩ : ∃ g, f = g + 1 := ⟨f - 1, by simp at hf; omega⟩
    have h1 := insF_pos p x
    unfold loopP codeB
    rw [if_neg (by rw [List.length_append]; omega), (insF p).fwd _ _ h.1, Option.bind_some]
    simp only
    rw [List.length_append, Nat.add_sub_cancel, loop_fwd l g _ h.2 (by simp at hf; omega)]
    rfl
theorem loop_bwd : ∀ (f p : Nat) (bs : List UInt8) (l : List Ins), loopP f p bs = some l → Chain p l ∧ bs = codeB p l
  | 0, p, bs, l, h => by
    unfold loopP at h
    split at h
    · rename_i h0
      cases h
      exact ⟨trivial, List.length_eq_zero_iff.1 h0⟩
    · cases h
  | f + 1, p, bs, l, h => by
    unfold loopP at h
    split at h
    · rename_i h0
      cases h
      exact ⟨trivial, List.length_eq_zero_iff.1 h0⟩
    · cases h1 : (insF p).parse bs with
      | none => rw [h1] at h; cases h
      | some r =>
        rw [h1, Option.bind_some] at h
        cases h2 : loopP f (p + (bs.length - r.2.length)) r.2 with
        | none => rw [h2] at h; cases h
        | some s =>
          rw [h2] at h
          cases h
          obtain ⟨o, e⟩ := (insF p).bwd _ _ _ h1
          obtain ⟨o2, e2⟩ := loop_bwd f _ _ _ h2
          have e3 : bs.length - r.2.length = ((insF p).enc r.1).length := by
            have := congrArg List.length e
            rw [List.length_append] at this
            omega
          rw [e3] at o2 e2
          refine ⟨⟨o, o2⟩, ?_⟩
          show bs = (insF p).enc r.1 ++ codeB _ s
          rw [← e2]
          exact e
def targets (x : Ins) : List Int := (if 7 ≤ form x.op then [x.a] else []) ++ if 8 ≤ form x.op then x.cs.map (·.to) else []
/-- Each leads to where one begins. -/
def leads (l : List Ins) : Bool := l.all fun x => (targets x).all fun t => l.any fun y => decide (y.p = t)
/-- A code's instructions. -/
def dec (bs : List UInt8) : Option (List Ins) := (loopP bs.length 0 bs).bind fun l => if l ≠ [] ∧ leads l = true then some l else none
theorem code_len : ∀ (l : List Ins) (p : Nat), l.length ≤ (codeB p l).length
  | [], _ => Nat.le_refl _
  | x :: l, p => by
    have h1 := insF_pos p x
    have := code_len l (p + ((insF p).enc x).length)
    rw [codeB, List.length_append, List.length_cons]
    omega
theorem dec_bwd {bs : List UInt8} {l : List Ins} (h : dec bs = some l) : Chain 0 l ∧ bs = codeB 0 l ∧ l ≠ [] ∧ leads l = true := by
  unfold dec at h
  cases h1 : loopP bs.length 0 bs with
  | none => rw [h1] at h; cases h
  | some s =>
    rw [h1, Option.bind_some] at h
    split at h
    · rename_i hc
      cases h
      obtain ⟨o, e⟩ := loop_bwd _ _ _ _ h1
      exact ⟨o, e, hc.1, hc.2⟩
    · cases h
theorem dec_fwd {l : List Ins} (h : Chain 0 l) (h1 : l ≠ []) (h2 : leads l = true) : dec (codeB 0 l) = some l := by
  unfold dec
  rw [loop_fwd l _ 0 h (code_len l 0), Option.bind_some, if_pos ⟨h1, h2⟩]
/-- Where they stand. -/
theorem chain_p : ∀ (l : List Ins) (p i : Nat), Chain p l → (hi : i < l.length) → l[i].p = ((p + (codeB p (l.take i)).length : Nat) : Int)
  | [], p, i, _, hi => by simp at hi
  | x :: l, p, 0, h, _ => by
    show x.p = _
    rw [(insF_is h.1).1]
    rfl
  | x :: l, p, i + 1, h, hi => by
    show (l[i]'(by simpa using hi)).p = _
    rw [chain_p l _ i h.2 (by simpa using hi), List.take_succ_cons, codeB, List.length_append]
    congr 1
    omega
theorem chain_take : ∀ (l : List Ins) (p k : Nat), Chain p l → Chain p (l.take k) ∧ codeB p (l.take k) ++ codeB (p + (codeB p (l.take k)).length) (l.drop k) = codeB p l
  | l, p, 0, _ => ⟨trivial, rfl⟩
  | [], p, k + 1, _ => ⟨trivial, rfl⟩
  | x :: l, p, k + 1, h => by
    obtain ⟨h1, h2⟩ := chain_take l _ k h.2
    refine ⟨⟨h.1, h1⟩, ?_⟩
    rw [List.take_succ_cons, List.drop_succ_cons, codeB, codeB, List.length_append, List.append_assoc, ← Nat.add_assoc, h2]
theorem code_rise {l : List Ins} {p i j : Nat} (hij : i ≤ j) : (codeB p (l.take i)).length ≤ (codeB p (l.take j)).length := by
  induction l generalizing p i j with
  | nil => simp [codeB]
  | cons x l ih =>
    cases i with
    | zero => exact Nat.zero_le _
    | succ i =>
      obtain ⟨j, rfl⟩ : ∃ j', j = j' + 1 := ⟨j - 1, by omega⟩
      rw [List.take_succ_cons, List.take_succ_cons, codeB, codeB, List.length_append, List.length_append]
      have := ih (p := p + ((insF p).enc x).length) (i := i) (j := j) (by omega)
      omega
/-- A beginning, cut where one begins. -/
theorem front {l : List Ins} (h : Chain 0 l) (hl : leads l = true) {k : Nat} (hk : 1 ≤ k) (hkl : k ≤ l.length) : (codeB 0 l).take (codeB 0 (l.take k)).length = codeB 0 (l.take k) ∧
    dec (codeB 0 (l.take k)) = if (l.take k).any (fun x => (targets x).any fun t => decide (((codeB 0 (l.take k)).length : Int) ≤ t)) = true then none else some (l.take k) := by
  obtain ⟨h1, h2⟩ := chain_take l 0 k h
  refine ⟨by rw [← h2, List.take_left' rfl], ?_⟩
  have hne : l.take k ≠ [] := by
    intro e
    have h9 := congrArg List.length e
    rw [List.length_take] at h9
    simp only [List.length_nil] at h9
    omega
  have key : leads (l.take k) = !(l.take k).any (fun x => (targets x).any fun t => decide (((codeB 0 (l.take k)).length : Int) ≤ t)) := by
    rw [Bool.eq_iff_iff, Bool.not_eq_true']
    unfold leads at hl ⊢
    simp only [List.all_eq_true, List.any_eq_true, List.any_eq_false, decide_eq_true_eq] at hl ⊢
    constructor
    · intro hh x hx ⟨t, ht, hle⟩
      obtain ⟨y, hy, hyt⟩ := hh x hx t ht
      obtain ⟨i, hi, rfl⟩ := List.getElem_of_mem hy
      have := chain_p _ 0 i h1 hi
      rw [hyt, Nat.zero_add] at this
      rw [List.length_take] at hi
      have h3 : (codeB 0 ((l.take k).take i)).length < (codeB 0 (l.take k)).length := by
        have h4 := code_rise (l := l.take k) (p := 0) (i := i + 1) (j := (l.take k).length) (by rw [List.length_take]; omega)
        rw [List.take_length] at h4
        have h5 : ∀ (l : List Ins) (p i : Nat), i < l.length → (codeB p (l.take i)).length < (codeB p (l.take (i + 1))).length := by
          intro l
          induction l with
          | nil => intro p i hi; simp at hi
          | cons x l ih =>
            intro p i hi
            cases i with
            | zero =>
              have := insF_pos p x
              simp [codeB]
              omega
            | succ i =>
              have := ih (p + ((insF p).enc x).length) i (by simpa using hi)
              rw [List.take_succ_cons, List.take_succ_cons, codeB, codeB, List.length_append, List.length_append]
              omega
        have := h5 (l.take k) 0 i (by rw [List.length_take]; omega)
        omega
      omega
    · intro hh x hx t ht
      obtain ⟨y, hy, hyt⟩ := hl x (List.mem_of_mem_take hx) t ht
      obtain ⟨i, hi, rfl⟩ := List.getElem_of_mem hy
      have hp := chain_p l 0 i h hi
      rw [hyt, Nat.zero_add] at hp
      have hlt : ¬ ((codeB 0 (l.take k)).length : Int) ≤ t := fun hle => hh x hx ⟨t, ht, hle⟩
      have hik : i < k := by
        rcases Nat.lt_or_ge i k with h' | h'
        · exact h'
        · have := code_rise (l := l) (p := 0) h'
          omega
      exact ⟨l[i], List.mem_take_iff_getElem.2 ⟨i, by omega, rfl⟩, hyt⟩
  by_cases ha : (l.take k).any (fun x => (targets x).any fun t => decide (((codeB 0 (l.take k)).length : Int) ≤ t)) = true
  · rw [if_pos ha]
    rw [ha] at key
    unfold dec
    rw [loop_fwd _ _ 0 h1 (code_len _ 0), Option.bind_some, if_neg (fun h => by rw [key] at h; exact absurd h.2 (by decide))]
  · rw [if_neg ha]
    have ha' : (l.take k).any (fun x => (targets x).any fun t => decide (((codeB 0 (l.take k)).length : Int) ≤ t)) = false := by simpa using ha
    rw [ha'] at key
    exact dec_fwd h1 hne key
end Go.Proofs.Ytcpeekeiflglpaa.Code
