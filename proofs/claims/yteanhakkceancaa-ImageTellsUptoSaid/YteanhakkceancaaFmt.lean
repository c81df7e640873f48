/- Plain mathematics of formats: what is told is read, what is read is told again. No program in sight. -/
import Derived.Test.YteanhakkceancaaWMath2
namespace Go.Proofs.Yteanhakkceancaa.Fmt
open Go Go.Proofs.Yteanhakkceancaa.Eng Go.Proofs.Yteanhakkceancaa.Word

/-- A format: how values are told, which may be, and how they are read. -/
structure Fmt (α : Type) where
  enc : α → List UInt8
  ok : α → Prop
  parse : List UInt8 → Option (α × List UInt8)
  fwd : ∀ x q, ok x → parse (enc x ++ q) = some (x, q)
  bwd : ∀ bs x q, parse bs = some (x, q) → ok x ∧ bs = enc x ++ q

theorem Fmt.fwd0 {α : Type} (F : Fmt α) {x : α} (h : F.ok x) : F.parse (F.enc x) = some (x, []) := by
  have := F.fwd x [] h
  rwa [List.append_nil] at this
/-- No beginning of a telling is one. -/
theorem Fmt.cut {α : Type} (F : Fmt α) {x y : α} {k : Nat} (h : F.ok x) (hk : k < (F.enc x).length) : F.parse ((F.enc x).take k) ≠ some (y, []) := by
  intro e
  obtain ⟨hy, e2⟩ := F.bwd _ _ _ e
  rw [List.append_nil] at e2
  have e3 : F.enc x = F.enc y ++ (F.enc x).drop k := by rw [← e2, List.take_append_drop]
  have h1 := F.fwd y ((F.enc x).drop k) hy
  rw [← e3, F.fwd0 h] at h1
  simp only [Option.some.injEq, Prod.mk.injEq] at h1
  have := congrArg List.length h1.2
  rw [List.length_drop] at this
  simp at this
  omega

/-! ### Numbers -/
theorem enc_succ (k : Nat) (n : Int) : enc (k + 1) n = enc k (n / 256) ++ [UInt8.ofNat (n % 256).toNat] := by
  unfold enc
  rw [List.range_succ, List.map_append]
  congr 1
  · refine List.map_congr_left fun i hi => ?_
    rw [List.mem_range] at hi
    unfold encAt
    have e : 8 * (k + 1 - 1 - i) = 8 + 8 * (k - 1 - i) := by omega
    have e2 : n / 2 ^ (8 * (k + 1 - 1 - i)) = n / 256 / 2 ^ (8 * (k - 1 - i)) := by
      rw [e, Int.pow_add, ← Int.ediv_ediv_of_nonneg (by decide)]
      rfl
    rw [e2]
  · simp [encAt]
theorem enc_be : ∀ (k : Nat) (l : List UInt8), l.length = k → enc k (be l) = l
  | 0, l, h => by
    rw [List.length_eq_zero_iff.1 h]
    rfl
  | k + 1, l, h => by
    obtain ⟨l', b, rfl⟩ : ∃ l' b, l = l' ++ [b] := ⟨l.dropLast, l.getLast (by intro e; rw [e] at h; cases h), (List.dropLast_concat_getLast _).symm⟩
    rw [List.length_append] at h
    simp at h
    have hb := b.toNat_lt
    rw [enc_succ, be_snoc]
    have e1 : ((be l' * 256 + b.toNat : Nat) : Int) / 256 = (be l' : Int) := by omega
    have e2 : (((be l' * 256 + b.toNat : Nat) : Int) % 256).toNat = b.toNat := by omega
    rw [e1, e2, enc_be k l' h]
    simp
theorem enc_wrap : ∀ (k : Nat) (n : Int), enc k (n - 256 ^ k) = enc k n
  | 0, _ => rfl
  | k + 1, n => by
    have e : (256 : Int) ^ (k + 1) = 256 ^ k * 256 := Int.pow_succ ..
    rw [enc_succ, enc_succ, e]
    have e1 : (n - 256 ^ k * 256) / 256 = n / 256 - 256 ^ k := by omega
    have e2 : (n - 256 ^ k * 256) % 256 = n % 256 := by omega
    rw [e1, e2, enc_wrap k]
theorem pow_bits (k : Nat) : (2 : Int) ^ (8 * k) = 256 ^ k := by
  rw [Int.pow_mul]
  rfl
theorem enc_sval (k : Nat) (n : Nat) : enc k (sval k n) = enc k (n : Int) := by
  unfold sval
  split
  · rfl
  · rw [pow_bits, enc_wrap]
/-- How a number is told. -/
theorem wide4 {k : Int} (h : wide k = true) : k.toNat = 1 ∨ k.toNat = 2 ∨ k.toNat = 4 ∨ k.toNat = 8 := by
  have := wide_cases h
  omega
theorem num_bwd (k : Nat) (sign : Bool) (hk : wide (k : Int) = true) (l : List UInt8) (hl : l.length = k) {v : Int} (hv : v = if sign = true then sval k (be l) else (be l : Int)) (h8 : sign = false → be l < 9223372036854775808) :
    fits k v sign = true ∧ enc k v = l ∧ -9223372036854775808 ≤ v ∧ v ≤ 9223372036854775807 := by
  have hb := be_lt l
  rw [hl] at hb
  subst hv
  cases sign with
  | false =>
    rw [if_neg (by decide)]
    have h8 := h8 rfl
    refine ⟨?_, enc_be k l hl, by omega, by omega⟩
    have hk4 := wide4 hk
    rw [Int.toNat_natCast] at hk4
    rcases hk4 with rfl | rfl | rfl | rfl <;> simp [fits] <;> omega
  | true =>
    rw [if_pos rfl]
    rw [enc_sval]
    have hk4 := wide4 hk
    rw [Int.toNat_natCast] at hk4
    refine ⟨?_, enc_be k l hl, ?_⟩
    · unfold sval
      rcases hk4 with rfl | rfl | rfl | rfl <;> simp [fits] <;> split <;> omega
    · unfold sval
      rcases hk4 with rfl | rfl | rfl | rfl <;> split <;> omega
def numP (k : Nat) (sign : Bool) (bs : List UInt8) : Option (Int × List UInt8) :=
  if bs.length < k then none
  else if sign = true then some (sval k (be (bs.take k)), bs.drop k)
  else if be (bs.take k) < 9223372036854775808 then some ((be (bs.take k) : Int), bs.drop k) else none
/-- What the reader says, in these words. -/
theorem get_num (k : Nat) (sign : Bool) (hk : wide (k : Int) = true) (bs : List UInt8) (i : Nat) (hi : i ≤ bs.length) :
    (∃ v, numP k sign (bs.drop i) = some (v, bs.drop (i + k)) ∧ Word.get sign bs i k = (v, 0, i + k) ∧ i + k ≤ bs.length) ∨ (numP k sign (bs.drop i) = none ∧ ∃ e, e ≠ 0 ∧ Word.get sign bs i k = (0, e, i)) := by
  unfold Word.get numP
  rw [if_pos hk, List.length_drop, Int.toNat_natCast]
  by_cases hl : (bs.length : Int) - i < k
  · rw [if_pos hl, if_pos (by omega)]
    exact .inr ⟨rfl, 7, by decide, rfl⟩
  rw [if_neg hl, if_neg (by omega), List.drop_drop]
  cases sign with
  | true =>
    rw [if_pos rfl, if_pos rfl]
    exact .inl ⟨_, rfl, rfl, by omega⟩
  | false =>
    rw [if_neg (show ¬ (false : Bool) = true by decide), if_neg (show ¬ (false : Bool) = true by decide)]
    by_cases hb : be ((bs.drop i).take k) < 9223372036854775808
    · rw [if_pos hb, if_pos hb]
      exact .inl ⟨_, rfl, rfl, by omega⟩
    · rw [if_neg hb, if_neg hb]
      exact .inr ⟨rfl, 3, by decide, rfl⟩
def i64 (n : Int) : Prop := -9223372036854775808 ≤ n ∧ n ≤ 9223372036854775807
def num (k : Nat) (sign : Bool) (hk : wide (k : Int) = true) : Fmt Int where
  enc := enc k
  ok n := fits k n sign = true ∧ i64 n
  parse := numP k sign
  fwd := by
    rintro n q ⟨hf, h1, h2⟩
    unfold numP
    have hlen : (enc k n).length = k := enc_length k n
    rw [if_neg (by rw [List.length_append]; omega), List.take_left' hlen, List.drop_left' hlen]
    cases sign with
    | true => rw [if_pos rfl, back_s k n hk hf h1 h2]
    | false =>
      obtain ⟨e1, e2⟩ := back_u k n hk hf h2
      rw [if_neg (by decide), if_pos e2, e1]
  bwd := by
    intro bs v q h
    unfold numP at h
    split at h
    · cases h
    rename_i hl
    have hlen : (bs.take k).length = k := by rw [List.length_take]; omega
    split at h
    · rename_i hs
      cases h
      subst hs
      obtain ⟨h1, h2, h3⟩ := num_bwd k true hk (bs.take k) hlen rfl (fun h => by cases h)
      rw [if_pos rfl] at h1 h2 h3
      exact ⟨⟨h1, h3⟩, by rw [h2, List.take_append_drop]⟩
    · rename_i hs
      split at h
      · rename_i hb
        cases h
        have hs' : sign = false := by simpa using hs
        subst hs'
        obtain ⟨h1, h2, h3⟩ := num_bwd k false hk (bs.take k) hlen rfl (fun _ => hb)
        rw [if_neg (by decide)] at h1 h2 h3
        exact ⟨⟨h1, h3⟩, by rw [h2, List.take_append_drop]⟩
      · cases h
theorem num_enc_length (k : Nat) (sign : Bool) (hk : wide (k : Int) = true) (n : Int) : ((num k sign hk).enc n).length = k := enc_length k n

/-! ### Made of others -/
def unit_ {α : Type} (x0 : α) : Fmt α where
  enc _ := []
  ok x := x = x0
  parse bs := some (x0, bs)
  fwd x q h := by subst h; rfl
  bwd bs x q h := by cases h; exact ⟨rfl, rfl⟩
/-- One, and behind it another that hangs on it. -/
def dseq {α β : Type} (F : Fmt α) (G : α → Fmt β) : Fmt (α × β) where
  enc x := F.enc x.1 ++ (G x.1).enc x.2
  ok x := F.ok x.1 ∧ (G x.1).ok x.2
  parse bs := (F.parse bs).bind fun r => ((G r.1).parse r.2).map fun s => ((r.1, s.1), s.2)
  fwd := by
    rintro ⟨x, y⟩ q ⟨h1, h2⟩
    rw [List.append_assoc, F.fwd _ _ h1]
    simp only [Option.bind_some]
    rw [(G x).fwd _ _ h2]
    rfl
  bwd := by
    rintro bs ⟨x, y⟩ q h
    cases h1 : F.parse bs with
    | none => rw [h1] at h; cases h
    | some r =>
      rw [h1, Option.bind_some] at h
      cases h2 : (G r.1).parse r.2 with
      | none => rw [h2] at h; cases h
      | some s =>
        rw [h2] at h
        cases h
        obtain ⟨o1, e1⟩ := F.bwd _ _ _ h1
        obtain ⟨o2, e2⟩ := (G r.1).bwd _ _ _ h2
        exact ⟨⟨o1, o2⟩, by rw [e1, e2, List.append_assoc]⟩
/-- Said in other words. -/
def via {α β : Type} (F : Fmt α) (to : α → β) (from_ : β → α) (h1 : ∀ x, F.ok x → from_ (to x) = x) : Fmt β where
  enc y := F.enc (from_ y)
  ok y := to (from_ y) = y ∧ F.ok (from_ y)
  parse bs := (F.parse bs).map fun r => (to r.1, r.2)
  fwd := by
    rintro y q ⟨hd, ho⟩
    rw [F.fwd _ _ ho]
    show some (to (from_ y), q) = _
    rw [hd]
  bwd := by
    intro bs y q h
    cases hp : F.parse bs with
    | none => rw [hp] at h; cases h
    | some r =>
      rw [hp] at h
      cases h
      obtain ⟨o, e⟩ := F.bwd _ _ _ hp
      show (to (from_ (to r.1)) = to r.1 ∧ F.ok (from_ (to r.1))) ∧ bs = F.enc (from_ (to r.1)) ++ r.2
      rw [h1 _ o]
      exact ⟨⟨rfl, o⟩, e⟩
/-- None. -/
def none_ (α : Type) : Fmt α where
  enc _ := []
  ok _ := False
  parse _ := none
  fwd _ _ h := h.elim
  bwd _ _ _ h := by cases h
/-- So many, one behind the other. -/
def manyP {α : Type} (F : Fmt α) : Nat → List UInt8 → Option (List α × List UInt8)
  | 0, bs => some ([], bs)
  | n + 1, bs => (F.parse bs).bind fun r => (manyP F n r.2).map fun s => (r.1 :: s.1, s.2)
theorem many_fwd {α : Type} (F : Fmt α) : ∀ (l : List α) (q : List UInt8), (∀ x ∈ l, F.ok x) → manyP F l.length (l.flatMap F.enc ++ q) = some (l, q)
  | [], q, _ => rfl
  | x :: l, q, h => by
    rw [List.length_cons, List.flatMap_cons, List.append_assoc, manyP, F.fwd _ _ (h x List.mem_cons_self), Option.bind_some, many_fwd F l q fun y hy => h y (List.mem_cons_of_mem _ hy)]
    rfl
theorem many_bwd {α : Type} (F : Fmt α) : ∀ (n : Nat) (bs : List UInt8) (l : List α) (q : List UInt8), manyP F n bs = some (l, q) → l.length = n ∧ (∀ x ∈ l, F.ok x) ∧ bs = l.flatMap F.enc ++ q
  | 0, bs, l, q, h => by cases h; exact ⟨rfl, fun _ h => (by cases h), rfl⟩
  | n + 1, bs, l, q, h => by
    unfold manyP at h
    cases h1 : F.parse bs with
    | none => rw [h1] at h; cases h
    | some r =>
      rw [h1, Option.bind_some] at h
      cases h2 : manyP F n r.2 with
      | none => rw [h2] at h; cases h
      | some s =>
        rw [h2] at h
        cases h
        obtain ⟨o1, e1⟩ := F.bwd _ _ _ h1
        obtain ⟨e2, o2, e3⟩ := many_bwd F n _ _ _ h2
        refine ⟨by rw [List.length_cons, e2], fun x hx => ?_, ?_⟩
        · rcases List.mem_cons.1 hx with rfl | hx
          · exact o1
          · exact o2 x hx
        · rw [List.flatMap_cons, List.append_assoc, ← e3]
          exact e1
/-- A list: how many, and these. -/
def list {α : Type} (k : Nat) (hk : wide (k : Int) = true) (F : Fmt α) : Fmt (List α) where
  enc l := enc k (l.length : Int) ++ l.flatMap F.enc
  ok l := (fits k (l.length : Int) false = true ∧ i64 l.length) ∧ ∀ x ∈ l, F.ok x
  parse bs := (numP k false bs).bind fun r => manyP F r.1.toNat r.2
  fwd := by
    rintro l q ⟨h1, h2⟩
    have := (num k false hk).fwd (l.length : Int) (l.flatMap F.enc ++ q) h1
    rw [List.append_assoc]
    change numP k false (enc k (l.length : Int) ++ _) = _ at this
    rw [this, Option.bind_some]
    exact many_fwd F l q h2
  bwd := by
    intro bs l q h
    cases h1 : numP k false bs with
    | none => rw [h1] at h; cases h
    | some r =>
      rw [h1, Option.bind_some] at h
      obtain ⟨o1, e1⟩ := (num k false hk).bwd bs r.1 r.2 h1
      obtain ⟨e2, o2, e3⟩ := many_bwd F _ _ _ _ h
      have hr : 0 ≤ r.1 := by
        unfold numP at h1
        split at h1
        · cases h1
        rw [if_neg (by decide)] at h1
        split at h1
        · cases h1; exact Int.natCast_nonneg _
        · cases h1
      have e4 : (l.length : Int) = r.1 := by omega
      refine ⟨⟨by rw [e4]; exact o1, o2⟩, ?_⟩
      rw [List.append_assoc, ← e3, e4]
      exact e1
/-- Bytes, so many. -/
def rawP (n : Int) (bs : List UInt8) : Option (List UInt8 × List UInt8) := if n < 0 ∨ (bs.length : Int) < n then none else some (bs.take n.toNat, bs.drop n.toNat)
/-- A text or bytes, how many ahead. -/
def text (k : Nat) (hk : wide (k : Int) = true) : Fmt (List UInt8) where
  enc s := enc k (s.length : Int) ++ s
  ok s := fits k (s.length : Int) false = true ∧ i64 s.length
  parse bs := (numP k false bs).bind fun r => rawP r.1 r.2
  fwd := by
    intro s q h
    have := (num k false hk).fwd (s.length : Int) (s ++ q) h
    rw [List.append_assoc]
    change numP k false (enc k (s.length : Int) ++ _) = _ at this
    rw [this, Option.bind_some]
    unfold rawP
    rw [if_neg (by rw [List.length_append]; omega), Int.toNat_natCast, List.take_left' rfl, List.drop_left' rfl]
  bwd := by
    intro bs s q h
    cases h1 : numP k false bs with
    | none => rw [h1] at h; cases h
    | some r =>
      rw [h1, Option.bind_some] at h
      obtain ⟨o1, e1⟩ := (num k false hk).bwd bs r.1 r.2 h1
      unfold rawP at h
      split at h
      · cases h
      rename_i hn
      cases h
      have e4 : ((r.2.take r.1.toNat).length : Int) = r.1 := by rw [List.length_take]; omega
      rw [e4]
      refine ⟨o1, ?_⟩
      rw [List.append_assoc, List.take_append_drop]
      exact e1
/-- Those that a test lets go. -/
def filtF {α : Type} (F : Fmt α) (c : α → Bool) : Fmt α where
  enc := F.enc
  ok x := F.ok x ∧ c x = true
  parse bs := (F.parse bs).bind fun r => if c r.1 = true then some r else none
  fwd := by
    rintro x q ⟨h1, h2⟩
    rw [F.fwd _ _ h1, Option.bind_some, if_pos h2]
  bwd := by
    intro bs x q h
    cases h1 : F.parse bs with
    | none => rw [h1] at h; cases h
    | some r =>
      rw [h1, Option.bind_some] at h
      split at h
      · rename_i hc
        cases h
        obtain ⟨o, e⟩ := F.bwd _ _ _ h1
        exact ⟨⟨o, hc⟩, e⟩
      · cases h
def seq {α β : Type} (F : Fmt α) (G : Fmt β) : Fmt (α × β) := dseq F fun _ => G
end Go.Proofs.Yteanhakkceancaa.Fmt
