/- Plain mathematics of records: many that are written, scanned; cut; turned. No program in sight. -/
import Derived.Test.YtpcoleeggeahlaaDoorFMath
import Derived.Test.YtpcoleeggeahlaaDoorCrc2
namespace Go.Proofs.YtpcoleeggeahlaaDoor.Frame
open Go Go.Proofs.YtpcoleeggeahlaaDoor Go.Proofs.YtpcoleeggeahlaaDoor.Eng Go.Proofs Go.Proofs.YtpcoleeggeahlaaDoor.Sum

/-- A record that may be. -/
structure okR (r : Rec) : Prop where
  e0 : 0 ≤ r.e
  e1 : r.e ≤ 4294967295
  d : r.d.length ≤ 4096
theorem okR.err {r : Rec} (h : okR r) : writeErr r = 0 := by
  have := h.e0
  have := h.e1
  have := h.d
  unfold writeErr
  rw [if_neg (by omega), if_neg (by omega)]
theorem okR_of {r : Rec} (h : writeErr r = 0) : okR r := by
  unfold writeErr at h
  split at h
  · cases h
  · split at h
    · cases h
    · exact ⟨by omega, by omega, by omega⟩
def tot (l : List Rec) : Nat := (l.flatMap enc).length
theorem tot_cons (r : Rec) (l : List Rec) : tot (r :: l) = r.d.length + 12 + tot l := by unfold tot; rw [List.flatMap_cons, List.length_append, enc_len]
def ends : Nat → List Rec → List (Nat × Rec)
  | _, [] => []
  | p, r :: l => (p + (r.d.length + 12), r) :: ends (p + (r.d.length + 12)) l
theorem ends_snd : ∀ (l : List Rec) (p : Nat), (ends p l).map (·.2) = l
  | [], _ => rfl
  | r :: l, p => by rw [ends, List.map_cons, ends_snd l]
theorem ends_len (l : List Rec) (p : Nat) : (ends p l).length = l.length := by
  have := congrArg List.length (ends_snd l p)
  simpa using this
theorem ends_last : ∀ (l : List Rec) (p : Nat), ((ends p l).getLast?.map (·.1)).getD p = p + tot l
  | [], p => rfl
  | r :: l, p => by
    rw [ends, tot_cons]
    have ih := ends_last l (p + (r.d.length + 12))
    cases hl : ends (p + (r.d.length + 12)) l with
    | nil =>
      rw [hl] at ih
      simp at ih ⊢
      omega
    | cons x xs =>
      rw [hl] at ih
      rw [List.getLast?_cons_cons]
      cases hx : (x :: xs).getLast? with
      | none => simp at hx
      | some y =>
        rw [hx] at ih
        simp at ih ⊢
        omega
theorem endOf_ends (l : List Rec) : endOf (ends 0 l) = tot l := by
  have := ends_last l 0
  unfold endOf
  omega
/-- Epochs do not fall, from one on. -/
def rise : Int → List Rec → Prop
  | _, [] => True
  | last, r :: l => ¬ r.e < last ∧ rise r.e l
def lastE : Int → List Rec → Int
  | last, [] => last
  | _, r :: l => lastE r.e l
theorem recs_encs : ∀ (l : List Rec) (f : Nat) (last : Int) (pre q : List UInt8), (∀ r ∈ l, okR r) → rise last l → l.length ≤ f →
    recs f (pre ++ (l.flatMap enc ++ q)) pre.length last = ends pre.length l ++ recs (f - l.length) (pre ++ (l.flatMap enc ++ q)) (pre.length + tot l) (lastE last l)
  | [], f, last, pre, q, _, _, _ => by simp [ends, tot, lastE]
  | r :: l, f, last, pre, q, hok, hr, hf => by
    obtain ⟨g, rfl⟩ : ∃ g, f = g + 1 := ⟨f - 1, by simp at hf; omega⟩
    have h := hok r List.mem_cons_self
    obtain ⟨h1, h2, h3⟩ := first_enc r h.e0 h.e1 h.d (l.flatMap enc ++ q)
    have hd : (pre ++ ((r :: l).flatMap enc ++ q)).drop pre.length = enc r ++ (l.flatMap enc ++ q) := by
      rw [List.drop_left, List.flatMap_cons, List.append_assoc]
    have ih := recs_encs l g r.e (pre ++ enc r) q (fun x hx => hok x (List.mem_cons_of_mem _ hx)) hr.2 (by simp at hf; omega)
    have hlen : (pre ++ enc r).length = pre.length + (r.d.length + 12) := by rw [List.length_append, enc_len]
    have happ : pre ++ enc r ++ (l.flatMap enc ++ q) = pre ++ ((r :: l).flatMap enc ++ q) := by rw [List.flatMap_cons]; simp
    rw [hlen, happ] at ih
    rw [recs, hd, h1, h2, h3, if_pos ⟨rfl, hr.1⟩, ih, ends, tot_cons, List.cons_append, List.length_cons, Nat.add_sub_add_right, lastE]
    congr 3
    omega
theorem tot_ge (l : List Rec) : l.length ≤ tot l := by
  induction l with
  | nil => exact Nat.zero_le _
  | cons r l ih => rw [tot_cons, List.length_cons]; omega
/-- Records, and behind them what is none. -/
theorem scan_encs (l : List Rec) (q : List UInt8) (hok : ∀ r ∈ l, okR r) (hr : rise 0 l) (hq : firstErr q ≠ 0 ∨ (firstRec q).e < lastE 0 l) : scan (l.flatMap enc ++ q) = ends 0 l := by
  have h := recs_encs l ((l.flatMap enc ++ q).length + 1) 0 [] q hok hr (by have := tot_ge l; unfold tot at this; rw [List.length_append]; omega)
  rw [List.nil_append] at h
  unfold scan
  have e0 : ([] : List UInt8).length = 0 := rfl
  rw [e0] at h
  rw [h, Nat.zero_add]
  have hd : (l.flatMap enc ++ q).drop (tot l) = q := by unfold tot; rw [List.drop_left]
  have hs : ∀ f, recs f (l.flatMap enc ++ q) (tot l) (lastE 0 l) = [] := by
    intro f
    cases f with
    | zero => rfl
    | succ f =>
      unfold recs
      rw [hd, if_neg]
      rintro ⟨h1, h2⟩
      rcases hq with h | h
      · exact h h1
      · exact h2 h
  rw [hs, List.append_nil]
/-- Where bytes of records are cut. -/
theorem cut_encs : ∀ (l : List Rec) (k : Nat), k ≤ tot l → ∃ j, j ≤ l.length ∧ tot (l.take j) ≤ k ∧ ((j = l.length ∧ (l.flatMap enc).take k = (l.take j).flatMap enc) ∨ ∃ (h : j < l.length), (l.flatMap enc).take k = (l.take j).flatMap enc ++ (enc l[j]).take (k - tot (l.take j)) ∧ k < tot (l.take j) + (l[j].d.length + 12))
  | [], k, hk => ⟨0, Nat.le_refl _, Nat.zero_le _, .inl ⟨rfl, by simp⟩⟩
  | r :: l, k, hk => by
    rw [tot_cons] at hk
    by_cases h : k < r.d.length + 12
    · refine ⟨0, Nat.zero_le _, Nat.zero_le _, .inr ⟨by simp, ?_, ?_⟩⟩
      · show (enc r ++ l.flatMap enc).take k = [] ++ (enc r).take (k - 0)
        rw [List.take_append_of_le_length (by rw [enc_len]; omega), List.nil_append, Nat.sub_zero]
      · show k < 0 + (r.d.length + 12)
        omega
    · obtain ⟨j, hj, h1, h2⟩ := cut_encs l (k - (r.d.length + 12)) (by omega)
      have ht : ((r :: l).flatMap enc).take k = enc r ++ (l.flatMap enc).take (k - (r.d.length + 12)) := by
        rw [List.flatMap_cons]
        have hle : r.d.length + 12 ≤ k := Nat.le_of_not_lt h
        have : k = (enc r).length + (k - (r.d.length + 12)) := by rw [enc_len]; exact (Nat.add_sub_of_le hle).symm
        conv => lhs; rw [this]
        rw [List.take_length_add_append]
      have htt : tot ((r :: l).take (j + 1)) = r.d.length + 12 + tot (l.take j) := by rw [List.take_succ_cons, tot_cons]
      refine ⟨j + 1, by simp; omega, by rw [htt]; omega, ?_⟩
      rcases h2 with ⟨hje, h2⟩ | ⟨hjl, h2, h3⟩
      · left
        refine ⟨by simp [hje], ?_⟩
        rw [ht, h2, List.take_succ_cons, List.flatMap_cons]
      · right
        refine ⟨by simp; omega, ?_, ?_⟩
        · rw [ht, h2, htt, List.take_succ_cons, List.flatMap_cons, List.append_assoc]
          have : k - (r.d.length + 12) - tot (l.take j) = k - (r.d.length + 12 + tot (l.take j)) := Nat.sub_sub _ _ _
          rw [this]
          rfl
        · rw [htt]
          show k < r.d.length + 12 + tot (l.take j) + (l[j].d.length + 12)
          have h9 : k - (r.d.length + 12) < tot (l.take j) + (l[j].d.length + 12) := h3
          clear h3 h2
          generalize l[j].d.length = z at h9 ⊢
          omega
theorem rise_take : ∀ (l : List Rec) (last : Int) (j : Nat), rise last l → rise last (l.take j)
  | [], _, j, _ => by rw [List.take_nil]; trivial
  | r :: l, _, 0, _ => trivial
  | r :: l, last, j + 1, h => ⟨h.1, rise_take l r.e j h.2⟩
/-- Bytes of records that are cut: the first few. -/
theorem scan_cut (l : List Rec) (hok : ∀ r ∈ l, okR r) (hr : rise 0 l) (k : Nat) (hk : k ≤ tot l) : ∃ j, j ≤ l.length ∧ scan ((l.flatMap enc).take k) = ends 0 (l.take j) ∧ tot (l.take j) ≤ k ∧ (j = l.length ∨ ∃ h : j < l.length, k < tot (l.take j) + (l[j].d.length + 12)) := by
  obtain ⟨j, hj, h1, h2⟩ := cut_encs l k hk
  have hokt : ∀ r ∈ l.take j, okR r := fun r hr => hok r (List.mem_of_mem_take hr)
  refine ⟨j, hj, ?_, h1, ?_⟩
  · rcases h2 with ⟨_, h2⟩ | ⟨hjl, h2, h3⟩
    · rw [h2]
      have := scan_encs (l.take j) [] hokt (rise_take l 0 j hr) (.inl first_none)
      rwa [List.append_nil] at this
    · rw [h2]
      have ho := hok _ (List.getElem_mem hjl)
      exact scan_encs (l.take j) _ hokt (rise_take l 0 j hr) (.inl (first_cut _ ho.e1 ho.e0 ho.d _ (by omega)))
  · rcases h2 with ⟨h, _⟩ | ⟨hjl, _, h3⟩
    · exact .inl h
    · exact .inr ⟨hjl, h3⟩

/-! ### A byte turned over -/
theorem split_at {bs : List UInt8} {k : Nat} (hk : k < bs.length) : bs = bs.take k ++ bs.getD k 0 :: bs.drop (k + 1) := by
  have : bs.drop k = bs[k] :: bs.drop (k + 1) := List.drop_eq_getElem_cons hk
  conv => lhs; rw [← List.take_append_drop k bs, this]
  rw [List.getD_eq_getElem?_getD, List.getElem?_eq_getElem hk]
  rfl
theorem set_at {bs : List UInt8} {k : Nat} (hk : k < bs.length) (v : UInt8) : bs.set k v = bs.take k ++ v :: bs.drop (k + 1) := List.set_eq_take_append_cons_drop .. |>.trans (by rw [if_pos hk])
theorem last4_inj {a b : Crc.W} (h : last4 a = last4 b) : a = b := by
  simp only [last4, List.cons.injEq, and_true] at h
  obtain ⟨h1, h2, h3, h4⟩ := h
  have n : ∀ {x y : Nat}, UInt8.ofNat x = UInt8.ofNat y → x % 256 = y % 256 := fun {x y} e => by
    have := congrArg UInt8.toNat e
    simpa using this
  apply BitVec.eq_of_toNat_eq
  have h1 := n h1
  have h2 := n h2
  have h3 := n h3
  have h4 := n h4
  have := a.isLt
  have := b.isLt
  omega
theorem turn_ne {x y : UInt8} (h : y ≠ 0) : x ^^^ y ≠ x := by
  intro e
  have : x ^^^ (x ^^^ y) = x ^^^ x := by rw [e]
  rw [← UInt8.xor_assoc, UInt8.xor_self, UInt8.zero_xor] at this
  exact h this
theorem not_right (bs : List UInt8) (k : Nat) (y : UInt8) (hk : k < bs.length + 4) (hy : y ≠ 0) : right ((sealed bs).set k ((sealed bs).getD k 0 ^^^ y)) = false := by
  unfold right
  rw [List.length_set, sealed_length, show bs.length + 4 - 4 = bs.length by omega]
  by_cases h : k < bs.length
  · have e1 : (sealed bs).set k ((sealed bs).getD k 0 ^^^ y) = (bs.set k (bs.getD k 0 ^^^ y)) ++ last4 (Crc.on 0#32 bs) := by
      unfold sealed
      rw [List.set_append_left _ _ h, List.getD_eq_getElem?_getD, List.getElem?_append_left h, ← List.getD_eq_getElem?_getD]
    rw [e1, List.take_left' (by simp)]
    have hne : ¬ sealed (bs.set k (bs.getD k 0 ^^^ y)) = bs.set k (bs.getD k 0 ^^^ y) ++ last4 (Crc.on 0#32 bs) := by
      intro e
      unfold sealed at e
      have e := last4_inj (List.append_cancel_left e)
      rw [set_at h] at e
      conv at e => rhs; rw [split_at h]
      exact turn_ne hy (Crc.on_one e)
    rw [decide_eq_false hne]
    simp
  · have e1 : ((sealed bs).set k ((sealed bs).getD k 0 ^^^ y)).take bs.length = bs := by
      unfold sealed
      rw [List.set_append_right _ _ (by omega), List.take_left' rfl]
    rw [e1]
    have hne : ¬ sealed bs = (sealed bs).set k ((sealed bs).getD k 0 ^^^ y) := by
      intro e
      have hk' : k < (sealed bs).length := by rw [sealed_length]; exact hk
      rw [set_at hk'] at e
      conv at e => lhs; rw [split_at hk']
      have e := List.append_cancel_left e
      simp only [List.cons.injEq, and_true] at e
      exact turn_ne hy e.symm
    rw [decide_eq_false hne]
    simp
/-- A record of which a byte is turned that is none of its number's. -/
theorem first_turned (r : Rec) (h : okR r) (k : Nat) (y : UInt8) (hk4 : 4 ≤ k) (hk : k < (enc r).length) (hy : y ≠ 0) : firstErr ((enc r).set k ((enc r).getD k 0 ^^^ y)) = 30 := by
  have hl := enc_len r
  have hd := h.d
  have hn0 : num ((enc r).set k ((enc r).getD k 0 ^^^ y)) 0 = r.d.length := by
    have h3 := num_be4 r.d.length (by omega) [] (be4 r.e.toNat ++ r.d ++ last4 (Crc.on 0#32 (be4 r.d.length ++ be4 r.e.toNat ++ r.d)))
    have e2 : num ((enc r).set k ((enc r).getD k 0 ^^^ y)) 0 = num (enc r) 0 := by
      unfold num
      rw [List.drop_zero, List.drop_zero, List.take_set_of_le hk4]
    rw [e2]
    unfold enc sealed
    simpa using h3
  unfold firstErr
  rw [List.length_set, hl, hn0, if_neg (by omega), if_neg (by omega), if_neg (by omega)]
  have ht : ((enc r).set k ((enc r).getD k 0 ^^^ y)).take (r.d.length + 12) = (enc r).set k ((enc r).getD k 0 ^^^ y) := List.take_of_length_le (by rw [List.length_set, hl]; omega)
  rw [ht]
  have := not_right (be4 r.d.length ++ be4 r.e.toNat ++ r.d) k y (by
    have : (sealed (be4 r.d.length ++ be4 r.e.toNat ++ r.d)).length = (be4 r.d.length ++ be4 r.e.toNat ++ r.d).length + 4 := sealed_length _
    unfold enc at hk
    omega) hy
  unfold enc
  rw [this]
  rfl
end Go.Proofs.YtpcoleeggeahlaaDoor.Frame
