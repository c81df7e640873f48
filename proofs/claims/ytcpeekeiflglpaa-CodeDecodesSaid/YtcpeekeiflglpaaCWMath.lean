/- Plain mathematics of codes: what the writer leaves of what is one. No program in sight. -/
import Derived.Test.YtcpeekeiflglpaaCWrite3
namespace Go.Proofs.Ytcpeekeiflglpaa.Code
open Go Go.Proofs.Ytcpeekeiflglpaa.Eng Go.Proofs.Ytcpeekeiflglpaa.Word Go.Proofs.Ytcpeekeiflglpaa.Fmt
set_option maxRecDepth 10000

theorem put_good1 (bs : List UInt8) (k : Nat) (sign : Bool) (z : Int) (hk : wide (k : Int) = true) (hf : Word.fits (k : Int) z sign = true) : putS (bs, false) k sign [z] = (bs ++ enc k z, false) := by
  unfold putS
  rw [if_neg (show ¬ (false : Bool) = true by decide)]
  have hg := good_one hk hf
  unfold allBs
  rw [hg, if_pos rfl]
  simp
theorem put_good2 (bs : List UInt8) (k : Nat) (sign : Bool) (a b : Int) (hk : wide (k : Int) = true) (ha : Word.fits (k : Int) a sign = true) (hb : Word.fits (k : Int) b sign = true) : putS (bs, false) k sign [a, b] = (bs ++ (enc k a ++ enc k b), false) := by
  unfold putS
  rw [if_neg (show ¬ (false : Bool) = true by decide)]
  have hg := good_two hk ha hb
  unfold allBs
  rw [hg, if_pos rfl]
  simp
theorem place_good (bs : List UInt8) (p to : Int) (h : 0 ≤ to ∧ to ≤ 65535) : placeS (bs, false) p to = (to - p, bs, false) := by
  unfold placeS
  rw [if_neg]
  rintro (h1 | h1 | h1)
  · cases h1
  · omega
  · omega
theorem fits4 {z : Int} (h : Word.fits ((4 : Nat) : Int) z true = true) : -2147483648 ≤ z ∧ z ≤ 2147483647 := by
  simp [Word.fits] at h
  omega
theorem wrap4 {z : Int} (h : -2147483648 ≤ z ∧ z ≤ 2147483647) : z = IntKind.i64.wrap (IntKind.i32.wrap z) := by
  have e : IntKind.i32.wrap z = z := by
    rw [IntKind.wrap_i32]
    omega
  rw [e, wrap_i64 (by omega) (by omega)]
theorem fold_tab (p : Int) : ∀ (l : List Cs) (bs : List UInt8), (∀ c ∈ l, Word.fits ((4 : Nat) : Int) (c.to - p) true = true ∧ 0 ≤ c.to ∧ c.to ≤ 65535) →
    l.foldl (wcaseS false p) (bs, false) = (bs ++ (l.map fun c => c.to - p).flatMap (enc 4), false)
  | [], bs, _ => by simp
  | c :: l, bs, h => by
    have hc := h c List.mem_cons_self
    rw [List.foldl_cons, wcaseS_eq, if_neg (by decide), place_good _ _ _ hc.2, put_good1 _ 4 true _ Code.w4 hc.1, fold_tab p l _ fun y hy => h y (List.mem_cons_of_mem _ hy)]
    simp
theorem fold_sch (p : Int) : ∀ (l : List Cs) (bs : List UInt8), (∀ c ∈ l, Word.fits ((4 : Nat) : Int) c.key true = true ∧ Word.fits ((4 : Nat) : Int) (c.to - p) true = true ∧ 0 ≤ c.to ∧ c.to ≤ 65535) →
    l.foldl (wcaseS true p) (bs, false) = (bs ++ (l.map fun c => (c.key, c.to - p)).flatMap (fun r => enc 4 r.1 ++ enc 4 r.2), false)
  | [], bs, _ => by simp
  | c :: l, bs, h => by
    have hc := h c List.mem_cons_self
    rw [List.foldl_cons, wcaseS_eq, if_pos rfl, put_good1 _ 4 true _ Code.w4 hc.1, place_good _ _ _ hc.2.2, put_good1 _ 4 true _ Code.w4 hc.2.1, fold_sch p l _ fun y hy => h y (List.mem_cons_of_mem _ hy)]
    simp
theorem wcases_good (bs : List UInt8) (srch : Bool) (x : Ins) (p : Nat) (hx : x.p = p) (ha : 0 ≤ x.a ∧ x.a ≤ 65535) (hcs : ∀ c ∈ x.cs, 0 ≤ c.to ∧ c.to ≤ 65535) (h : (if srch = true then schF p x.op else tabF p x.op).ok x) :
    wcasesS srch x (bs, false) = (bs ++ (if srch = true then schF p x.op else tabF p x.op).enc x, false) := by
  cases srch with
  | false =>
    rw [if_neg (by decide)] at h ⊢
    obtain ⟨h0, _, h1, ⟨⟨h2, h3⟩, h4⟩, h5, h6⟩ := h
    simp only [Bool.and_eq_true, decide_eq_true_eq] at h4 h1 h2 h3 h6
    have hlen : x.cs.length ≤ 256 := by omega
    have hb := fits4 h2.1
    unfold wcasesS
    rw [if_neg (fun hc => hc.elim (fun hc => by omega) (fun hc => hc (wrap4 hb)))]
    have hhead : wheadS false x (bs, false) = (bs ++ (List.replicate (padOf p) 0 ++ (enc 4 (x.a - p) ++ (enc 4 x.b ++ enc 4 (x.b + x.cs.length - 1)))), false) := by
      unfold wheadS
      dsimp only
      rw [hx, Int.toNat_natCast, place_good _ _ _ ha, put_good1 _ 4 true _ Code.w4 h1.1, if_neg (by decide), put_good2 _ 4 true _ _ Code.w4 h2.1 h3.1]
      simp
    rw [hhead, hx, fold_tab]
    · show _ = (bs ++ (List.replicate (padOf p) 0 ++ (enc 4 (x.a - p) ++ ((enc 4 x.b ++ enc 4 (x.b + x.cs.length - 1)) ++ (x.cs.map fun c => c.to - (p : Int)).flatMap (enc 4)))), false)
      simp
    · intro c hc
      exact ⟨(h6 (c.to - p) (List.mem_map.2 ⟨c, hc, rfl⟩)).1, hcs c hc⟩
  | true =>
    rw [if_pos rfl] at h ⊢
    obtain ⟨h0, _, h1, ⟨h2, h3⟩, ⟨h5, h6⟩, h7⟩ := h
    simp only [decide_eq_true_eq] at h1 h2 h3 h6
    have hlen : x.cs.length ≤ 256 := by omega
    have hxb : x.b = 0 := by
      have := congrArg Ins.b h0
      simpa using this.symm
    unfold wcasesS
    rw [if_neg (fun hc => hc.elim (fun hc => by omega) (fun hc => hc (wrap4 (by rw [hxb]; omega))))]
    have hhead : wheadS true x (bs, false) = (bs ++ (List.replicate (padOf p) 0 ++ (enc 4 (x.a - p) ++ enc 4 (x.cs.length : Int))), false) := by
      unfold wheadS
      dsimp only
      rw [hx, Int.toNat_natCast, place_good _ _ _ ha, put_good1 _ 4 true _ Code.w4 h1.1, if_pos rfl, put_good1 _ 4 false _ Code.w4 h2.1]
      simp
    rw [hhead, hx, fold_sch]
    · show _ = (bs ++ (List.replicate (padOf p) 0 ++ (enc 4 (x.a - p) ++ (enc 4 (x.cs.length : Int) ++ (x.cs.map fun c => (c.key, c.to - (p : Int))).flatMap (fun r => enc 4 r.1 ++ enc 4 r.2)))), false)
      simp
    · intro c hc
      have := h6 (c.key, c.to - p) (List.mem_map.2 ⟨c, hc, rfl⟩)
      exact ⟨this.1.1, this.2.1, hcs c hc⟩
theorem oneW_good (bs : List UInt8) (x : Ins) (h : (insF bs.length).ok x) (ht : ∀ z ∈ targets x, 0 ≤ z ∧ z ≤ 65535) : oneW x (bs, false) = (bs ++ (insF bs.length).enc x, false) := by
  obtain ⟨hp, hf0⟩ := insF_is h
  obtain ⟨_, ⟨h1, _⟩, h2⟩ := h
  simp only at h1 h2
  unfold oneW
  rw [if_neg (fun hc => hc.elim hf0 (fun hc => hc hp)), put_good1 _ 1 false _ Code.w1 h1]
  have he : (insF bs.length).enc x = enc 1 x.op ++ (opF bs.length x.op).enc x := rfl
  rw [he, ← List.append_assoc]
  have hle := form_le x.op
  have ht0 : targets x = (if 7 ≤ form x.op then [x.a] else []) ++ if 8 ≤ form x.op then x.cs.map (·.to) else [] := rfl
  generalize hbs : bs ++ enc 1 x.op = b2
  unfold opF at h2 ⊢
  generalize form x.op = f at h2 hf0 hle ht0 ⊢
  match f with
  | 1 => show (b2, false) = (b2 ++ [], false); simp
  | 2 => exact put_good1 b2 1 true _ Code.w1 h2.2.1
  | 3 => exact put_good1 b2 2 true _ Code.w2 h2.2.1
  | 4 => exact put_good1 b2 1 false _ Code.w1 h2.2.1
  | 5 => exact put_good1 b2 2 false _ Code.w2 h2.2.1
  | 6 =>
    show putS (putS (b2, false) 1 false [x.a]) 1 true [x.b] = (b2 ++ (enc 1 x.a ++ enc 1 x.b), false)
    rw [put_good1 b2 1 false _ Code.w1 h2.2.1.1, put_good1 _ 1 true _ Code.w1 h2.2.2.1]
    simp
  | 7 =>
    have ha := ht x.a (by rw [ht0]; simp)
    show putS (placeS (b2, false) x.p x.a).2 2 true [(placeS (b2, false) x.p x.a).1] = (b2 ++ enc 2 (x.a - (bs.length : Int)), false)
    rw [place_good _ _ _ ha, hp]
    exact put_good1 b2 2 true _ Code.w2 h2.2.1
  | 8 =>
    have ha := ht x.a (by rw [ht0]; simp)
    have hcs : ∀ c ∈ x.cs, 0 ≤ c.to ∧ c.to ≤ 65535 := fun c hc => ht c.to (by rw [ht0]; simp; exact .inr ⟨c, hc, rfl⟩)
    exact wcases_good b2 false x bs.length hp ha hcs (by rw [if_neg (by decide)]; exact h2)
  | 9 =>
    have ha := ht x.a (by rw [ht0]; simp)
    have hcs : ∀ c ∈ x.cs, 0 ≤ c.to ∧ c.to ≤ 65535 := fun c hc => ht c.to (by rw [ht0]; simp; exact .inr ⟨c, hc, rfl⟩)
    exact wcases_good b2 true x bs.length hp ha hcs (by rw [if_pos rfl]; exact h2)
  | 0 => exact absurd rfl hf0
  | n + 10 => omega
/-- How much one adds. -/
theorem bodyW_len (x : Ins) (t : WT) (f : Nat) : (bodyW x t f).1.length ≤ t.1.length + 2080 := by
  have hcase : ∀ srch, (wcasesS srch x t).1.length ≤ t.1.length + 2080 := fun srch => by
    unfold wcasesS
    split
    · exact Nat.le_add_right _ _
    · rename_i hc
      have hl : x.cs.length ≤ 256 := Nat.not_lt.1 fun h => hc (.inl h)
      have h1 := wheadS_len srch x t
      have h2 := wfold_len srch x.p x.cs (wheadS srch x t)
      omega
  unfold bodyW
  split <;> first
    | exact hcase _
    | exact Nat.le_add_right _ _
    | skip
  · have := (putS_len t 1 true [x.a]).2; simp at this; omega
  · have := (putS_len t 2 true [x.a]).2; simp at this; omega
  · have := (putS_len t 1 false [x.a]).2; simp at this; omega
  · have := (putS_len t 2 false [x.a]).2; simp at this; omega
  · have h1 := (putS_len t 1 false [x.a]).2
    have h2 := (putS_len (putS t 1 false [x.a]) 1 true [x.b]).2
    simp at h1 h2
    omega
  · have h1 := (putS_len (placeS t x.p x.a).2 2 true [(placeS t x.p x.a).1]).2
    rw [placeS_len] at h1
    simp at h1
    omega
theorem oneW_len (x : Ins) (t : WT) : (oneW x t).1.length ≤ t.1.length + 2090 := by
  unfold oneW
  split
  · exact Nat.le_add_right _ _
  · have h1 := (putS_len t 1 false [x.op]).2
    have h2 := bodyW_len x (putS t 1 false [x.op]) (form x.op)
    simp at h1
    omega
end Go.Proofs.Ytcpeekeiflglpaa.Code
