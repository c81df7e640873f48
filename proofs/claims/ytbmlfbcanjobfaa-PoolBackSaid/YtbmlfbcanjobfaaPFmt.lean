/- Plain mathematics of pools: how they are told and read. No program in sight. -/
import Derived.Test.YtbmlfbcanjobfaaPMath
import Derived.Test.YtbmlfbcanjobfaaFmt
namespace Go.Proofs.Ytbmlfbcanjobfaa.Pool
open Go Go.Proofs.Ytbmlfbcanjobfaa.Eng Go.Proofs.Ytbmlfbcanjobfaa.Word Go.Proofs.Ytbmlfbcanjobfaa.Fmt

theorem w1 : wide ((1 : Nat) : Int) = true := by decide
theorem w2 : wide ((2 : Nat) : Int) = true := by decide
theorem w4 : wide ((4 : Nat) : Int) = true := by decide
theorem w8 : wide ((8 : Nat) : Int) = true := by decide
/-- What stands behind a tag. -/
def bodyF (t : Int) : Fmt Ent :=
  if t = 1 then via (text 2 w2) (fun s => ⟨t, s, 0, 0, 0⟩) (·.text) (fun _ _ => rfl)
  else if t = 3 then via (num 4 true w4) (fun n => ⟨t, [], n, 0, 0⟩) (·.n) (fun _ _ => rfl)
  else if t = 5 then via (num 8 true w8) (fun n => ⟨t, [], n, 0, 0⟩) (·.n) (fun _ _ => rfl)
  else if t = 9 ∨ t = 10 ∨ t = 12 then via (dseq (num 2 false w2) fun _ => num 2 false w2) (fun p => ⟨t, [], 0, p.1, p.2⟩) (fun x => (x.a, x.b)) (fun _ _ => rfl)
  else if t = 7 then via (num 2 false w2) (fun a => ⟨t, [], 0, a, 0⟩) (·.a) (fun _ _ => rfl)
  else none_ Ent
theorem body_tag {t : Int} {x : Ent} (h : (bodyF t).ok x) : x.tag = t ∧ t ≠ 0 ∧ x = bare x := by
  unfold bodyF at h
  split at h
  · rename_i ht; have h := h.1; subst ht; rw [← h]; exact ⟨rfl, by decide, rfl⟩
  split at h
  · rename_i ht; have h := h.1; subst ht; rw [← h]; exact ⟨rfl, by decide, rfl⟩
  split at h
  · rename_i ht; have h := h.1; subst ht; rw [← h]; exact ⟨rfl, by decide, rfl⟩
  split at h
  · rename_i ht; have h := h.1; rw [← h]; rcases ht with rfl | rfl | rfl <;> exact ⟨rfl, by decide, rfl⟩
  split at h
  · rename_i ht; have h := h.1; subst ht; rw [← h]; exact ⟨rfl, by decide, rfl⟩
  · exact h.elim
def entF : Fmt Ent := via (dseq (num 1 false w1) bodyF) (·.2) (fun x => (x.tag, x)) fun p h => by
  obtain ⟨t, x⟩ := p
  have := (body_tag h.2).1
  simp only at this
  rw [this]
theorem ent_ok {x : Ent} (h : entF.ok x) : x.tag ≠ 0 ∧ x = bare x := by
  have h := h.2.2
  obtain ⟨_, h2, h3⟩ := body_tag h
  exact ⟨h2, h3⟩
theorem fits2 {n : Int} (h0 : 0 ≤ n) (h1 : n < 65536) : Word.fits (2 : Nat) n false = true ∧ i64 n := by
  refine ⟨?_, by omega, by omega⟩
  simp [Word.fits]
  omega
theorem ok_entF {x : Ent} (hx : x = bare x) (h : ∃ l i, demand l i x = true ∧ l.length ≤ 1024) (hn : i64 x.n) : entF.ok x := by
  obtain ⟨l, i, hd, hl⟩ := h
  have ref : ∀ {a t : Int}, t ≠ 0 → tagAt l a = t → Word.fits (2 : Nat) a false = true ∧ i64 a := fun ht h => by
    obtain ⟨k, rfl, hk, _⟩ := tag_in ht h
    exact fits2 (by omega) (by omega)
  have tag1 : ∀ t : Int, 0 ≤ t → t < 256 → Word.fits (1 : Nat) t false = true ∧ i64 t := fun t h0 h1 => by
    refine ⟨?_, by omega, by omega⟩
    simp [Word.fits]
    omega
  refine ⟨rfl, ?_⟩
  show (Word.fits (1 : Nat) x.tag false = true ∧ i64 x.tag) ∧ (bodyF x.tag).ok x
  unfold demand at hd
  unfold bodyF
  split at hd
  · rename_i ht
    refine ⟨tag1 _ (by omega) (by omega), ?_⟩
    rw [if_pos ht]
    refine ⟨?_, ?_⟩
    · have : bare x = ⟨x.tag, x.text, 0, 0, 0⟩ := by unfold bare; rw [if_pos ht]
      exact (hx.trans this).symm
    · unfold rightT at hd
      simp only [Bool.and_eq_true, decide_eq_true_eq] at hd
      have := hd.1
      show Word.fits (2 : Nat) (x.text.length : Int) false = true ∧ i64 (x.text.length : Int)
      exact fits2 (by omega) (by omega)
  rename_i n1
  split at hd
  · rename_i ht
    refine ⟨tag1 _ (by omega) (by omega), ?_⟩
    rw [if_neg n1, if_pos ht]
    refine ⟨?_, ?_, hn⟩
    · have : bare x = ⟨x.tag, [], x.n, 0, 0⟩ := by unfold bare; rw [if_neg n1, if_pos (.inl ht)]
      exact (hx.trans this).symm
    · unfold small at hd
      simp only [Bool.and_eq_true, decide_eq_true_eq] at hd
      show Word.fits (4 : Nat) x.n true = true
      simp [Word.fits]
      omega
  rename_i n3
  split at hd
  · rename_i ht
    refine ⟨tag1 _ (by omega) (by omega), ?_⟩
    rw [if_neg n1, if_neg n3, if_pos ht]
    refine ⟨?_, rfl, hn⟩
    have : bare x = ⟨x.tag, [], x.n, 0, 0⟩ := by unfold bare; rw [if_neg n1, if_pos (.inr ht)]
    exact (hx.trans this).symm
  rename_i n5
  split at hd
  · rename_i ht
    refine ⟨tag1 _ (by omega) (by omega), ?_⟩
    rw [if_neg n1, if_neg n3, if_neg n5, if_neg (by omega), if_pos ht]
    refine ⟨?_, ref (by decide) (of_decide_eq_true hd)⟩
    have : bare x = ⟨x.tag, [], 0, x.a, 0⟩ := by unfold bare; rw [if_neg n1, if_neg (by omega), if_pos ht]
    exact (hx.trans this).symm
  rename_i n7
  have hb : bare x = ⟨x.tag, [], 0, x.a, x.b⟩ := by unfold bare; rw [if_neg n1, if_neg (by omega), if_neg n7]
  split at hd
  · rename_i ht
    simp only [Bool.and_eq_true, decide_eq_true_eq] at hd
    refine ⟨tag1 _ (by omega) (by omega), ?_⟩
    rw [if_neg n1, if_neg n3, if_neg n5, if_pos (by omega)]
    exact ⟨(hx.trans hb).symm, ref (by decide) hd.1, ref (by decide) hd.2⟩
  split at hd
  · rename_i ht
    simp only [Bool.and_eq_true, decide_eq_true_eq] at hd
    refine ⟨tag1 _ (by omega) (by omega), ?_⟩
    rw [if_neg n1, if_neg n3, if_neg n5, if_pos (by omega)]
    exact ⟨(hx.trans hb).symm, ref (by decide) hd.1, ref (by decide) hd.2⟩
  · cases hd

/-! ### Many -/
def isIt (x : Ent) : Bool := !decide (x.tag = 0)
def ents (l : List Ent) : List UInt8 := (l.filter isIt).flatMap entF.enc
theorem ents_app (a b : List Ent) : ents (a ++ b) = ents a ++ ents b := by unfold ents; rw [List.filter_append, List.flatMap_append]
theorem ents_one {x : Ent} (h : x.tag ≠ 0) : ents (x :: tailOf x) = entF.enc x := by
  unfold ents tailOf
  have hi : isIt x = true := by unfold isIt; rw [decide_eq_false h]; rfl
  split
  · rw [List.filter_cons_of_pos hi, List.filter_cons_of_neg (by decide)]
    simp
  · rw [List.filter_cons_of_pos hi]
    simp
def loopP (n : Nat) : Nat → List Ent → List UInt8 → Option (List Ent × List UInt8)
  | 0, acc, bs => if acc.length < n then none else some (acc, bs)
  | f + 1, acc, bs => if acc.length < n then (entF.parse bs).bind fun r => loopP n f (acc ++ r.1 :: tailOf r.1) r.2 else some (acc, bs)
def poolP (bs : List UInt8) : Option (List Ent × List UInt8) :=
  (numP 2 false bs).bind fun r => if r.1 < 1 ∨ 1024 < r.1 then none else (loopP r.1.toNat r.1.toNat [e0] r.2).bind fun s => if (s.1.length : Int) ≤ r.1 ∧ okB s.1 = true then some s else none
theorem loop_bwd (n : Nat) : ∀ (f : Nat) (acc : List Ent) (bs : List UInt8) (l : List Ent) (q : List UInt8), loopP n f acc bs = some (l, q) → (∃ r, l = acc ++ r ∧ bs = ents r ++ q ∧ ∀ x ∈ r, i64 x.n) ∧ n ≤ l.length
  | 0, acc, bs, l, q, h => by
    unfold loopP at h
    split at h
    · cases h
    · cases h
      exact ⟨⟨[], (List.append_nil _).symm, rfl, fun _ h => by cases h⟩, by omega⟩
  | f + 1, acc, bs, l, q, h => by
    unfold loopP at h
    split at h
    · cases h1 : entF.parse bs with
      | none => rw [h1] at h; cases h
      | some r =>
        rw [h1, Option.bind_some] at h
        obtain ⟨⟨r2, e1, e2, e3⟩, hn⟩ := loop_bwd n f _ _ _ _ h
        obtain ⟨ho, e⟩ := entF.bwd _ _ _ h1
        obtain ⟨ht, hb⟩ := ent_ok ho
        refine ⟨⟨r.1 :: tailOf r.1 ++ r2, by rw [e1]; simp, ?_, ?_⟩, hn⟩
        · rw [ents_app, ents_one ht, e, e2, List.append_assoc]
        · have hi : i64 r.1.n := by
            have h2 := ho.2.2
            simp only at h2
            unfold bodyF at h2
            have z : i64 0 := ⟨by decide, by decide⟩
            split at h2
            · rw [← h2.1]; exact z
            split at h2
            · exact h2.2.2
            split at h2
            · exact h2.2.2
            split at h2
            · rw [← h2.1]; exact z
            split at h2
            · rw [← h2.1]; exact z
            · exact h2.elim
          intro x hx
          rcases List.mem_append.1 hx with hx | hx
          · rcases List.mem_cons.1 hx with rfl | hx
            · exact hi
            · unfold tailOf at hx
              split at hx
              · rw [List.mem_singleton.1 hx]; exact ⟨by decide, by decide⟩
              · cases hx
          · exact e3 x hx
    · cases h
      exact ⟨⟨[], (List.append_nil _).symm, rfl, fun _ h => by cases h⟩, by omega⟩
theorem ents_drop {l : List Ent} {i : Nat} (hi : i < l.length) : ents (l.drop i) = (if (at_ l i).tag = 0 then [] else entF.enc (at_ l i)) ++ ents (l.drop (i + 1)) := by
  rw [List.drop_eq_getElem_cons hi, at_lt hi]
  unfold ents
  by_cases h : l[i].tag = 0
  · rw [List.filter_cons_of_neg (by unfold isIt; rw [decide_eq_true h]; decide), if_pos h, List.nil_append]
  · rw [List.filter_cons_of_pos (by unfold isIt; rw [decide_eq_false h]; rfl), if_neg h, List.flatMap_cons]
theorem loop_fwd {l : List Ent} (h : OkPool l) (hn : ∀ x ∈ l, i64 x.n) (q : List UInt8) : ∀ (f i : Nat), 1 ≤ i → i ≤ l.length → l.length ≤ f + i → (i < l.length → (at_ l (i - 1 : Nat)).tag ≠ 5) → loopP l.length f (l.take i) (ents (l.drop i) ++ q) = some (l, q)
  | 0, i, h1, h2, h3, _ => by
    have : i = l.length := by omega
    subst this
    unfold loopP
    rw [List.take_length, if_neg (by omega), List.drop_length]
    rfl
  | f + 1, i, h1, h2, h3, h4 => by
    unfold loopP
    have hl : (l.take i).length = i := by rw [List.length_take]; omega
    rw [hl]
    by_cases hi : i < l.length
    · rw [if_pos hi]
      have h4 := h4 hi
      have hf : fits l i = true := by
        rcases h.1.each i h1 hi with h5 | h5
        · exact absurd h5 h4
        · exact h5
      have ht := fits_tag hf
      have hb : at_ l i = bare (at_ l i) := by
        unfold Pool.fits at hf
        rw [Bool.and_eq_true] at hf
        exact of_decide_eq_true hf.1
      have hok : entF.ok (at_ l i) := ok_entF hb ⟨l, i, fits_demand hf, h.2⟩ (by rw [at_lt hi]; exact hn _ (List.getElem_mem hi))
      rw [ents_drop hi, if_neg ht, List.append_assoc, entF.fwd _ _ hok, Option.bind_some]
      simp only
      have hstep : l.take (i + 1) = l.take i ++ [at_ l i] := by rw [at_lt hi]; exact List.take_succ_eq_append_getElem hi
      by_cases h5 : (at_ l i).tag = 5
      · obtain ⟨h6, h7⟩ := fits_long hf h5
        have hstep2 : l.take (i + 1 + 1) = l.take (i + 1) ++ [at_ l (i + 1 : Nat)] := by rw [at_lt h6]; exact List.take_succ_eq_append_getElem h6
        have et : l.take i ++ at_ l i :: tailOf (at_ l i) = l.take (i + 2) := by
          unfold tailOf
          rw [if_pos h5, hstep2, hstep, h7]
          simp
        rw [et, ents_drop h6, h7, if_pos (show e0.tag = 0 from rfl), List.nil_append]
        refine loop_fwd h hn q f (i + 2) (by omega) (by omega) (by omega) fun h8 => ?_
        rw [show i + 2 - 1 = i + 1 by omega, h7]
        decide
      · have et : l.take i ++ at_ l i :: tailOf (at_ l i) = l.take (i + 1) := by
          unfold tailOf
          rw [if_neg h5, hstep]
        rw [et]
        refine loop_fwd h hn q f (i + 1) (by omega) (by omega) (by omega) fun h8 => ?_
        rw [show i + 1 - 1 = i by omega]
        exact h5
    · have : i = l.length := by omega
      subst this
      rw [if_neg hi, List.take_length, List.drop_length]
      rfl
/-- Pools. -/
def poolF : Fmt (List Ent) where
  enc l := enc 2 (l.length : Int) ++ ents (l.drop 1)
  ok l := okB l = true ∧ ∀ x ∈ l, i64 x.n
  parse := poolP
  fwd := by
    rintro l q ⟨ho, hn⟩
    have hp := (okB_iff l).1 ho
    have h1 := hp.1.pos
    have hlen := hp.2
    unfold poolP
    have h2 := (num 2 false w2).fwd (l.length : Int) (ents (l.drop 1) ++ q) (fits2 (by omega) (by omega))
    rw [List.append_assoc]
    change numP 2 false (enc 2 (l.length : Int) ++ _) = _ at h2
    rw [h2, Option.bind_some, if_neg (by simp only; omega)]
    simp only [Int.toNat_natCast]
    have ht : l.take 1 = [e0] := by
      have := hp.1.head
      have e : at_ l (0 : Nat) = l[0]'(by omega) := at_lt (by omega)
      have e1 : at_ l (0 : Nat) = e0 := this
      rw [e1] at e
      cases l with
      | nil => simp at h1
      | cons x r => simp at e; rw [e]; rfl
    have h3 := loop_fwd hp hn q l.length 1 (Nat.le_refl _) h1 (by omega) (fun _ => by
      show (at_ l ((1 - 1 : Nat) : Int)).tag ≠ 5
      rw [show ((1 - 1 : Nat) : Int) = 0 by rfl, hp.1.head]
      decide)
    rw [ht] at h3
    rw [h3, Option.bind_some, if_pos ⟨by simp, ho⟩]
  bwd := by
    intro bs l q h
    unfold poolP at h
    cases h1 : numP 2 false bs with
    | none => rw [h1] at h; cases h
    | some r =>
      rw [h1, Option.bind_some] at h
      split at h
      · cases h
      rename_i hr
      cases h2 : loopP r.1.toNat r.1.toNat [e0] r.2 with
      | none => rw [h2] at h; cases h
      | some s =>
        rw [h2, Option.bind_some] at h
        split at h
        · rename_i hs
          obtain ⟨s1, s2⟩ := s
          cases h
          obtain ⟨⟨t, e1, e2, e3⟩, hn⟩ := loop_bwd _ _ _ _ _ _ h2
          obtain ⟨o1, o2⟩ := (num 2 false w2).bwd bs r.1 r.2 h1
          refine ⟨⟨hs.2, fun x hx => ?_⟩, ?_⟩
          · rw [e1] at hx
            rcases List.mem_append.1 hx with hx | hx
            · rw [List.mem_singleton.1 hx]
              exact ⟨by decide, by decide⟩
            · exact e3 x hx
          · have hlen : (l.length : Int) = r.1 := by
              have := hs.1
              simp only at this
              omega
            rw [hlen]
            have hd : l.drop 1 = t := by rw [e1]; rfl
            rw [hd, List.append_assoc, ← e2]
            exact o2
        · cases h
end Go.Proofs.Ytbmlfbcanjobfaa.Pool
