/- The reference of pool, walked: what is right. -/
import Derived.Test.YtbmlfbcanjobfaaPWalk3
namespace Go.Proofs.Ytbmlfbcanjobfaa.Pool
open Go Go.Proofs.Ytbmlfbcanjobfaa Go.Proofs.Ytbmlfbcanjobfaa.Eng Go.Proofs
set_option maxRecDepth 10000

theorem fits_parts {l : List Ent} {i : Nat} {x B : Ent} {D : Bool} (hx : at_ l i = x) (h1 : bare x = B) (h2 : demand l i x = D) : fits l i = (D && decide (x = B)) := by
  unfold fits
  rw [hx, h2, h1, Bool.and_comm]
theorem RCheck_ok (A : Option Addr) (n c : Nat) (l : List Ent) (w : World) (h : Pl w A n l) :
    Calls Try.prog 38 #[.slice A n c] w fun e w' => e = .returned (.int .i64 (chk l)) ∧ New w w' := by
  refine enter ok Try.func38 rfl rfl rfl ?_
  have hlen := h.len
  have htop := h.top
  refine if_p (fun h0 => ?_) (fun h0 => ?_)
  · replace h0 : (n : Int) < 1 := h0
    rw [chk_bad fun o => by have := o.1.pos; omega]
    exact ⟨rfl, New.refl _⟩
  replace h0 : ¬ (n : Int) < 1 := h0
  refine if_p (fun h1 => ?_) (fun h1 => ?_)
  · replace h1 : (1024 : Int) < n := h1
    rw [chk_bad fun o => by have := o.2; omega]
    exact ⟨rfl, New.refl _⟩
  replace h1 : ¬ (1024 : Int) < n := h1
  obtain ⟨a, rfl, _, hc⟩ := h.at_ (i := 0) (by omega)
  refine And.intro (by decide) (And.intro (by omega) ?_)
  refine loadN_row (vs := entC (at_ l (0 : Nat))) hc rfl ?_
  refine ent_neq (q := e0) rfl rfl rfl ?_
  refine if_n (fun hne => ?_) (fun he => ?_)
  · rw [chk_bad fun o => hne o.1.head]
    exact ⟨rfl, New.refl _⟩
  replace he : at_ l 0 = e0 := he
  refine den_loop (σ := Nat) (fun i => [(0, .slice (some a) n c), (3, .int .i64 i)])
    (fun m i wl => 1 ≤ i ∧ i ≤ n ∧ m = n - i ∧ (i < n → (at_ l (i - 1 : Nat)).tag ≠ 5) ∧ (∀ j, 1 ≤ j → j < i → (at_ l (j - 1 : Nat)).tag = 5 ∨ fits l j = true) ∧ New w wl) (n - 1) 1 ⟨rfl, rfl, trivial⟩
    ⟨by omega, by omega, rfl, fun _ => by show (at_ l (0 : Nat)).tag ≠ 5; rw [show at_ l (0 : Nat) = e0 from he]; decide, fun j h1 h2 => by omega, New.refl _⟩ ?_
  rintro m i wl fr0 ⟨hi1, hin, rfl, hprev, hall, nl⟩
  refine if_p (fun hlt => ?_) (fun hge => ?_)
  rotate_left
  · replace hge : ¬ (i : Int) < n := hge
    rw [chk_good ⟨⟨by omega, he, fun j h1 h2 => hall j h1 (by omega)⟩, by omega⟩]
    exact ⟨rfl, nl⟩
  replace hlt : (i : Int) < n := hlt
  have hprev := hprev (by omega)
  obtain ⟨a', ha', hok, hci⟩ := h.at_ (i := i) (by omega)
  cases ha'
  have e1 : IntKind.i64.wrap ((i : Int) + 1) = ((i + 1 : Nat) : Int) := by rw [wrap_i64 (by omega) (by omega)]; omega
  refine And.intro (by omega) (And.intro hlt ?_)
  refine loadN_row (vs := entC (at_ l i)) (fun j u hu => by rw [Int.toNat_natCast]; exact nl.cell (hci j u hu)) rfl ?_
  have hparts := fun B D => fits_parts (l := l) (i := i) (x := at_ l i) (B := B) (D := D) rfl
  have htag5 : (at_ l i).tag = 5 → fits l i = true → i + 1 < l.length ∧ at_ l (i + 1 : Nat) = e0 := fun h1 h2 => fits_long h2 h1
  have bad : fits l i = false → ¬ OkPool l := fun hf o => by
    rcases o.1.each i hi1 (by omega) with h' | h'
    · exact hprev h'
    · rw [hf] at h'; cases h'
  have hat : ∀ t : Int, (at_ l i).tag = t → (at_ l (i + 1 - 1 : Nat)).tag = t := fun t h => by rw [show i + 1 - 1 = i by omega]; exact h
  have hat0 : at_ l (i + 1 : Nat) = e0 → (at_ l (i + 2 - 1 : Nat)).tag = 0 := fun h => by rw [show i + 2 - 1 = i + 1 by omega, h]; rfl
  have hin2 : (at_ l i).tag = 5 → fits l i = true → i + 2 ≤ n := fun h1 h2 => by have := (htag5 h1 h2).1; omega
  generalize at_ l i = x at hok hci hparts htag5 hat hin2
  refine And.intro rfl ?_
  refine storeNew (vs := entC x) (arr := entZ) rfl (entC_one x) ?_
  intro w1 hb1 n1 s1
  refine Exists.intro x.tag (And.intro (cellB hb1 rfl) ?_)
  refine And.intro rfl ?_
  refine storeNew (vs := entC ⟨x.tag, [], 0, 0, 0⟩) (arr := entZ) rfl (entC_one _) ?_
  intro w2 hb2 n2 s2
  have k2 := n1.trans n2
  have hb12 := n2.blk hb1
  have hsz := nl.size
  refine nil_ (thenF_ (seq_assign ?_))
  -- behind the switch: where it goes on, is it so, what it must be
  refine seq_cut (σ := Bool × Ent × Nat) (fun t => [(0, .slice (some a) n c), (3, .int .i64 t.2.2), (4, .pointer (some ⟨wl.heap.size, 0, none⟩)), (5, .pointer (some ⟨w1.heap.size, 0, none⟩)), (6, .bool t.1)])
    (fun t w3 => fits l i = (t.1 && decide (x = t.2.1)) ∧ (t.1 = true → t.2.2 = if x.tag = 5 then i + 1 else i) ∧ w3.heap[wl.heap.size]? = some (.cells (entC x).toArray 67 (0, 0)) ∧ w3.heap[w1.heap.size]? = some (.cells (entC t.2.1).toArray 67 (0, 0)) ∧ New wl w3) ?_ ?_
  · rintro ⟨okv, B, i'⟩ w3 fr1 ⟨hf, hi', hb3, hb3b, k3⟩
    dsimp only at hf hi' hb3b
    have kk := nl.trans k3
    cases okv with
    | false =>
      rw [Bool.false_and] at hf
      rw [chk_bad (bad hf)]
      exact ⟨rfl, kk⟩
    | true =>
      rw [Bool.true_and] at hf
      refine loadN_row (vs := entC x) (rowB hb3) rfl ?_
      refine loadN_row (vs := entC B) (rowB hb3b) rfl ?_
      refine ent_neq rfl rfl rfl ?_
      refine if_n (fun hne => ?_) (fun heq => ?_)
      · rw [decide_eq_false hne] at hf
        rw [chk_bad (bad hf)]
        exact ⟨rfl, kk⟩
      · replace heq : x = B := heq
        rw [decide_eq_true heq] at hf
        have hi' := hi' rfl
        have hall' : ∀ j, 1 ≤ j → j < i + 1 → (at_ l (j - 1 : Nat)).tag = 5 ∨ fits l j = true := fun j hj1 hj2 => by
          rcases Nat.lt_or_ge j i with h' | h'
          · exact hall j hj1 h'
          · have : j = i := by omega
            subst this
            exact .inr hf
        by_cases h5 : x.tag = 5
        · rw [if_pos h5] at hi'
          subst hi'
          have e2 : Value.int .i64 (IntKind.i64.wrap (((i + 1 : Nat) : Int) + 1)) = .int .i64 ((i + 2 : Nat) : Int) := by
            have := hin2 h5 hf
            rw [wrap_i64 (by omega) (by omega)]
            rfl
          have h6 := htag5 h5 hf
          refine ⟨n - (i + 2), i + 2, by omega, ⟨rfl, e2, trivial⟩, by omega, hin2 h5 hf, rfl, fun _ => by rw [hat0 h6.2]; decide, fun j hj1 hj2 => ?_, kk⟩
          rcases Nat.lt_or_ge j (i + 1) with h' | h'
          · exact hall' j hj1 h'
          · have : j = i + 1 := by omega
            subst this
            exact .inl (hat 5 h5)
        · rw [if_neg h5] at hi'
          have e2 : Value.int .i64 (IntKind.i64.wrap ((i' : Int) + 1)) = .int .i64 ((i + 1 : Nat) : Int) := by rw [hi', e1]
          exact ⟨n - (i + 1), i + 1, by omega, ⟨rfl, e2, trivial⟩, by omega, by omega, rfl, fun _ => fun h' => h5 ((hat _ rfl).symm.trans h'), hall', kk⟩
  intro K hK
  refine Exists.intro x.tag (And.intro (cellB hb12 rfl) ?_)
  refine if_p (fun ht => ?_) (fun t1 => ?_)
  · have hB : bare x = ⟨x.tag, x.text, 0, 0, 0⟩ := by unfold bare; rw [if_pos ht]
    have hD : demand l i x = rightT x.text := by unfold demand; rw [if_pos ht]
    refine Exists.intro (⟨x.text.toArray⟩ : ByteArray) (And.intro (cellB hb12 rfl) ?_)
    refine And.intro ⟨_, cellB hb2 rfl⟩ (And.intro (fzB hb2 _) (force_ ?_))
    refine stK hb2 (show (1 : Nat) < 5 by decide) ?_
    intro w3 hb3 m3 s3
    have hb13 := m3.keep hb12 (by omega)
    have k3 := k2.st m3 (by omega)
    have hb3' : w3.heap[w1.heap.size]? = some (.cells (entC ⟨x.tag, x.text, 0, 0, 0⟩).toArray 67 (0, 0)) := hb3
    refine Exists.intro (⟨x.text.toArray⟩ : ByteArray) (And.intro (cellB hb13 rfl) ?_)
    refine call_ (text_ok x.text w3 hok.text) ?_
    rintro e w4 ⟨rfl, rfl⟩
    refine ⟨_, rfl, ?_⟩
    exact hK (_, _, i) _ _ ⟨rfl, rfl, rfl, rfl, rfl, trivial⟩ ⟨hparts _ _ hB hD, fun _ => (if_neg (by rw [ht]; decide)).symm, hb13, hb3', k3⟩
  replace t1 : ¬ x.tag = 1 := t1
  refine if_p (fun ht => ?_) (fun t3 => ?_)
  · have hB : bare x = ⟨x.tag, [], x.n, 0, 0⟩ := by unfold bare; rw [if_neg t1, if_pos (.inl ht)]
    have hD : demand l i x = small x.n := by unfold demand; rw [if_neg t1, if_pos ht]
    unfold small at hD
    refine Exists.intro x.n (And.intro (cellB hb12 rfl) ?_)
    refine And.intro ⟨_, cellB hb2 rfl⟩ (And.intro (fzB hb2 _) (force_ ?_))
    refine stK hb2 (show (2 : Nat) < 5 by decide) ?_
    intro w3 hb3 m3 s3
    have hb13 := m3.keep hb12 (by omega)
    have k3 := k2.st m3 (by omega)
    have hb3' : w3.heap[w1.heap.size]? = some (.cells (entC ⟨x.tag, [], x.n, 0, 0⟩).toArray 67 (0, 0)) := hb3
    have hn5 : ¬ x.tag = 5 := by rw [ht]; decide
    refine Exists.intro x.n (And.intro (cellB hb13 rfl) ?_)
    refine if_p (fun hlo => ?_) (fun hlo => ?_)
    · refine Exists.intro x.n (And.intro (cellB hb13 rfl) ?_)
      rw [decide_eq_true hlo, Bool.true_and] at hD
      exact hK (_, _, i) _ _ ⟨rfl, rfl, rfl, rfl, rfl, trivial⟩ ⟨hparts _ _ hB hD, fun _ => (if_neg hn5).symm, hb13, hb3', k3⟩
    · rw [decide_eq_false hlo, Bool.false_and] at hD
      exact hK (_, _, i) _ _ ⟨rfl, rfl, rfl, rfl, rfl, trivial⟩ ⟨hparts _ _ hB hD, fun _ => (if_neg hn5).symm, hb13, hb3', k3⟩
  replace t3 : ¬ x.tag = 3 := t3
  refine if_p (fun ht => ?_) (fun t5 => ?_)
  · have hB : bare x = ⟨x.tag, [], x.n, 0, 0⟩ := by unfold bare; rw [if_neg t1, if_pos (.inr ht)]
    have hD : demand l i x = (decide (i + 1 < l.length) && decide (at_ l (i + 1 : Nat) = e0)) := by unfold demand; rw [if_neg t1, if_neg t3, if_pos ht]
    refine Exists.intro x.n (And.intro (cellB hb12 rfl) ?_)
    refine And.intro ⟨_, cellB hb2 rfl⟩ (And.intro (fzB hb2 _) (force_ ?_))
    refine stK hb2 (show (2 : Nat) < 5 by decide) ?_
    intro w3 hb3 m3 s3
    have hb13 := m3.keep hb12 (by omega)
    have k3 := k2.st m3 (by omega)
    have hb3' : w3.heap[w1.heap.size]? = some (.cells (entC ⟨x.tag, [], x.n, 0, 0⟩).toArray 67 (0, 0)) := hb3
    have e3 : Value.int .i64 (IntKind.i64.wrap ((i : Int) + 1)) = .int .i64 ((i + 1 : Nat) : Int) := by rw [e1]
    refine if_p (fun hl => ?_) (fun hge => ?_)
    · rw [e1] at hl
      replace hl : ((i + 1 : Nat) : Int) < n := hl
      obtain ⟨a', ha', _, hc'⟩ := h.at_ (i := i + 1) (by omega)
      cases ha'
      refine And.intro (by rw [e1]; omega) (And.intro (by rw [e1]; omega) ?_)
      refine loadN_row (vs := entC (at_ l (i + 1 : Nat))) (fun j u hu => by rw [e1, Int.toNat_natCast]; exact (nl.trans k3).cell (hc' j u hu)) rfl ?_
      refine ent_eql (q := e0) rfl rfl rfl ?_
      rw [decide_eq_true (p := i + 1 < l.length) (by omega), Bool.true_and] at hD
      exact hK (_, _, i + 1) _ _ ⟨rfl, e3, rfl, rfl, rfl, trivial⟩ ⟨hparts _ _ hB hD, fun _ => (if_pos ht).symm, hb13, hb3', k3⟩
    · rw [e1] at hge
      replace hge : ¬ ((i + 1 : Nat) : Int) < n := hge
      rw [decide_eq_false (p := i + 1 < l.length) (by omega), Bool.false_and] at hD
      exact hK (_, _, i + 1) _ _ ⟨rfl, e3, rfl, rfl, rfl, trivial⟩ ⟨hparts _ _ hB hD, fun _ => (if_pos ht).symm, hb13, hb3', k3⟩
  replace t5 : ¬ x.tag = 5 := t5
  refine if_p (fun ht => ?_) (fun t7 => ?_)
  · have hB : bare x = ⟨x.tag, [], 0, x.a, 0⟩ := by unfold bare; rw [if_neg t1, if_neg (by omega), if_pos ht]
    have hD : demand l i x = decide (tagAt l x.a = 1) := by unfold demand; rw [if_neg t1, if_neg t3, if_neg t5, if_pos ht]
    refine Exists.intro x.a (And.intro (cellB hb12 rfl) ?_)
    refine And.intro ⟨_, cellB hb2 rfl⟩ (And.intro (fzB hb2 _) (force_ ?_))
    refine stK hb2 (show (3 : Nat) < 5 by decide) ?_
    intro w3 hb3 m3 s3
    have hb13 := m3.keep hb12 (by omega)
    have k3 := k2.st m3 (by omega)
    have hb3' : w3.heap[w1.heap.size]? = some (.cells (entC ⟨x.tag, [], 0, x.a, 0⟩).toArray 67 (0, 0)) := hb3
    refine Exists.intro x.a (And.intro (cellB hb13 rfl) ?_)
    refine call_ (rtag_ok (some a) n c l x.a w3 (h.new (nl.trans k3))) ?_
    rintro e w4 ⟨rfl, rfl⟩
    refine ⟨_, rfl, ?_⟩
    exact hK (_, _, i) _ _ ⟨rfl, rfl, rfl, rfl, rfl, trivial⟩ ⟨hparts _ _ hB hD, fun _ => (if_neg t5).symm, hb13, hb3', k3⟩
  replace t7 : ¬ x.tag = 7 := t7
  have hB : bare x = ⟨x.tag, [], 0, x.a, x.b⟩ := by unfold bare; rw [if_neg t1, if_neg (by omega), if_neg t7]
  refine if_p (fun t12 => ?_) (fun t12 => ?_)
  · have hD : demand l i x = (decide (tagAt l x.a = 1) && decide (tagAt l x.b = 1)) := by unfold demand; rw [if_neg t1, if_neg t3, if_neg t5, if_neg t7, if_neg (by rw [t12]; decide), if_pos t12]
    refine draw_ (w := w2) ok (.q 0 (.q 1 (.q 2 (.q 3 (.q 4 (.e 5 (.q 6 (.e 7 .done)))))))) [7] (Mod (fun b => b = w1.heap.size) w2) (by kernel_rfl) (by kernel_rfl) (by kernel_rfl) (by kernel_rfl) (by kernel_rfl) (New.drew _).mod ?_
    refine Exists.intro x.a (And.intro (fun w'' hw => cellB (hw.keep hb12 (by omega)) rfl) ?_)
    refine Exists.intro x.b (And.intro (fun w'' hw => cellB (hw.keep hb12 (by omega)) rfl) ?_)
    have hb2d := (New.drew w2).blk hb2
    refine And.intro ⟨_, cellB hb2d rfl⟩ (And.intro (fzB hb2d _) (force_ ?_))
    refine stK hb2d (show (3 : Nat) < 5 by decide) ?_
    intro w3 hb3 m3 s3
    have m23 : Mod (fun b => b = w1.heap.size) w2 w3 := Mod.trans (New.drew w2).mod m3 (fun _ _ h => h)
    refine Exists.intro _ (And.intro (fun _ h => h) (And.intro m23 ?_))
    refine And.intro ⟨_, cellB hb3 rfl⟩ (And.intro (fzB hb3 _) (force_ ?_))
    refine stK hb3 (show (4 : Nat) < 5 by decide) ?_
    intro w4 hb4 m4 s4
    have m24 : Mod (fun b => b = w1.heap.size) w2 w4 := Mod.trans m23 m4 (fun _ _ h => h)
    have hb14 := m24.keep hb12 (by omega)
    have k4 := k2.st m24 (by omega)
    have hb4' : w4.heap[w1.heap.size]? = some (.cells (entC ⟨x.tag, [], 0, x.a, x.b⟩).toArray 67 (0, 0)) := hb4
    refine Exists.intro x.a (And.intro (cellB hb14 rfl) ?_)
    refine call_ (rtag_ok (some a) n c l x.a w4 (h.new (nl.trans k4))) ?_
    rintro e w5 ⟨rfl, rfl⟩
    refine ⟨_, rfl, ?_⟩
    refine if_p (fun ha => ?_) (fun ha => ?_)
    · refine Exists.intro x.b (And.intro (cellB hb14 rfl) ?_)
      refine call_ (rtag_ok (some a) n c l x.b w5 (h.new (nl.trans k4))) ?_
      rintro e w6 ⟨rfl, rfl⟩
      refine ⟨_, rfl, ?_⟩
      rw [decide_eq_true ha, Bool.true_and] at hD
      exact hK (_, _, i) _ _ ⟨rfl, rfl, rfl, rfl, rfl, trivial⟩ ⟨hparts _ _ hB hD, fun _ => (if_neg t5).symm, hb14, hb4', k4⟩
    · rw [decide_eq_false ha, Bool.false_and] at hD
      exact hK (_, _, i) _ _ ⟨rfl, rfl, rfl, rfl, rfl, trivial⟩ ⟨hparts _ _ hB hD, fun _ => (if_neg t5).symm, hb14, hb4', k4⟩
  replace t12 : ¬ x.tag = 12 := t12
  refine if_p (fun t9 => ?_) (fun t9 => ?_)
  · have hD : demand l i x = (decide (tagAt l x.a = 7) && decide (tagAt l x.b = 12)) := by unfold demand; rw [if_neg t1, if_neg t3, if_neg t5, if_neg t7, if_pos (.inl t9)]
    refine if_p (fun _ => ?_) (fun h9 => absurd t9 h9)
    refine draw_ (w := w2) ok (.q 0 (.q 1 (.q 2 (.q 3 (.q 4 (.e 5 (.q 6 (.e 7 .done)))))))) [7] (Mod (fun b => b = w1.heap.size) w2) (by kernel_rfl) (by kernel_rfl) (by kernel_rfl) (by kernel_rfl) (by kernel_rfl) (New.drew _).mod ?_
    refine Exists.intro x.a (And.intro (fun w'' hw => cellB (hw.keep hb12 (by omega)) rfl) ?_)
    refine Exists.intro x.b (And.intro (fun w'' hw => cellB (hw.keep hb12 (by omega)) rfl) ?_)
    have hb2d := (New.drew w2).blk hb2
    refine And.intro ⟨_, cellB hb2d rfl⟩ (And.intro (fzB hb2d _) (force_ ?_))
    refine stK hb2d (show (3 : Nat) < 5 by decide) ?_
    intro w3 hb3 m3 s3
    have m23 : Mod (fun b => b = w1.heap.size) w2 w3 := Mod.trans (New.drew w2).mod m3 (fun _ _ h => h)
    refine Exists.intro _ (And.intro (fun _ h => h) (And.intro m23 ?_))
    refine And.intro ⟨_, cellB hb3 rfl⟩ (And.intro (fzB hb3 _) (force_ ?_))
    refine stK hb3 (show (4 : Nat) < 5 by decide) ?_
    intro w4 hb4 m4 s4
    have m24 : Mod (fun b => b = w1.heap.size) w2 w4 := Mod.trans m23 m4 (fun _ _ h => h)
    have hb14 := m24.keep hb12 (by omega)
    have k4 := k2.st m24 (by omega)
    have hb4' : w4.heap[w1.heap.size]? = some (.cells (entC ⟨x.tag, [], 0, x.a, x.b⟩).toArray 67 (0, 0)) := hb4
    refine Exists.intro x.a (And.intro (cellB hb14 rfl) ?_)
    refine call_ (rtag_ok (some a) n c l x.a w4 (h.new (nl.trans k4))) ?_
    rintro e w5 ⟨rfl, rfl⟩
    refine ⟨_, rfl, ?_⟩
    refine if_p (fun ha => ?_) (fun ha => ?_)
    · refine Exists.intro x.b (And.intro (cellB hb14 rfl) ?_)
      refine call_ (rtag_ok (some a) n c l x.b w5 (h.new (nl.trans k4))) ?_
      rintro e w6 ⟨rfl, rfl⟩
      refine ⟨_, rfl, ?_⟩
      rw [decide_eq_true ha, Bool.true_and] at hD
      exact hK (_, _, i) _ _ ⟨rfl, rfl, rfl, rfl, rfl, trivial⟩ ⟨hparts _ _ hB hD, fun _ => (if_neg t5).symm, hb14, hb4', k4⟩
    · rw [decide_eq_false ha, Bool.false_and] at hD
      exact hK (_, _, i) _ _ ⟨rfl, rfl, rfl, rfl, rfl, trivial⟩ ⟨hparts _ _ hB hD, fun _ => (if_neg t5).symm, hb14, hb4', k4⟩
  refine if_p (fun t10 => ?_) (fun t10 => ?_)
  · have hD : demand l i x = (decide (tagAt l x.a = 7) && decide (tagAt l x.b = 12)) := by unfold demand; rw [if_neg t1, if_neg t3, if_neg t5, if_neg t7, if_pos (.inr t10)]
    refine draw_ (w := w2) ok (.q 0 (.q 1 (.q 2 (.q 3 (.q 4 (.e 5 (.q 6 (.e 7 .done)))))))) [7] (Mod (fun b => b = w1.heap.size) w2) (by kernel_rfl) (by kernel_rfl) (by kernel_rfl) (by kernel_rfl) (by kernel_rfl) (New.drew _).mod ?_
    refine Exists.intro x.a (And.intro (fun w'' hw => cellB (hw.keep hb12 (by omega)) rfl) ?_)
    refine Exists.intro x.b (And.intro (fun w'' hw => cellB (hw.keep hb12 (by omega)) rfl) ?_)
    have hb2d := (New.drew w2).blk hb2
    refine And.intro ⟨_, cellB hb2d rfl⟩ (And.intro (fzB hb2d _) (force_ ?_))
    refine stK hb2d (show (3 : Nat) < 5 by decide) ?_
    intro w3 hb3 m3 s3
    have m23 : Mod (fun b => b = w1.heap.size) w2 w3 := Mod.trans (New.drew w2).mod m3 (fun _ _ h => h)
    refine Exists.intro _ (And.intro (fun _ h => h) (And.intro m23 ?_))
    refine And.intro ⟨_, cellB hb3 rfl⟩ (And.intro (fzB hb3 _) (force_ ?_))
    refine stK hb3 (show (4 : Nat) < 5 by decide) ?_
    intro w4 hb4 m4 s4
    have m24 : Mod (fun b => b = w1.heap.size) w2 w4 := Mod.trans m23 m4 (fun _ _ h => h)
    have hb14 := m24.keep hb12 (by omega)
    have k4 := k2.st m24 (by omega)
    have hb4' : w4.heap[w1.heap.size]? = some (.cells (entC ⟨x.tag, [], 0, x.a, x.b⟩).toArray 67 (0, 0)) := hb4
    refine Exists.intro x.a (And.intro (cellB hb14 rfl) ?_)
    refine call_ (rtag_ok (some a) n c l x.a w4 (h.new (nl.trans k4))) ?_
    rintro e w5 ⟨rfl, rfl⟩
    refine ⟨_, rfl, ?_⟩
    refine if_p (fun ha => ?_) (fun ha => ?_)
    · refine Exists.intro x.b (And.intro (cellB hb14 rfl) ?_)
      refine call_ (rtag_ok (some a) n c l x.b w5 (h.new (nl.trans k4))) ?_
      rintro e w6 ⟨rfl, rfl⟩
      refine ⟨_, rfl, ?_⟩
      rw [decide_eq_true ha, Bool.true_and] at hD
      exact hK (_, _, i) _ _ ⟨rfl, rfl, rfl, rfl, rfl, trivial⟩ ⟨hparts _ _ hB hD, fun _ => (if_neg t5).symm, hb14, hb4', k4⟩
    · rw [decide_eq_false ha, Bool.false_and] at hD
      exact hK (_, _, i) _ _ ⟨rfl, rfl, rfl, rfl, rfl, trivial⟩ ⟨hparts _ _ hB hD, fun _ => (if_neg t5).symm, hb14, hb4', k4⟩
  have hD : demand l i x = false := by unfold demand; rw [if_neg t1, if_neg t3, if_neg t5, if_neg t7, if_neg (fun h => h.elim t9 t10), if_neg t12]
  have hb2' : w2.heap[w1.heap.size]? = some (.cells (entC ⟨x.tag, [], 0, 0, 0⟩).toArray 67 (0, 0)) := hb2
  exact hK (false, ⟨x.tag, [], 0, 0, 0⟩, i) _ _ ⟨rfl, rfl, rfl, rfl, rfl, trivial⟩ ⟨by rw [hparts _ _ hB hD]; rfl, (fun h => by cases h), hb12, hb2', k2⟩
end Go.Proofs.Ytbmlfbcanjobfaa.Pool
