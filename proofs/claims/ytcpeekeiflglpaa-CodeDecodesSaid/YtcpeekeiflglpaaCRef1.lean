/- The document's answer for codes, walked: forms, noughts, where an instruction leads. Printed by genref1.py. -/
import Derived.Test.YtcpeekeiflglpaaCWalk5
import Derived.Test.YtcpeekeiflglpaaWRef2
namespace Go.Proofs.Ytcpeekeiflglpaa.Code
open Go Go.Proofs.Ytcpeekeiflglpaa Go.Proofs.Ytcpeekeiflglpaa.Eng Go.Proofs Go.Proofs.Ytcpeekeiflglpaa.Word
set_option maxRecDepth 10000

theorem ivs_at (zs : List Int) (j : Nat) (hj : j < zs.length) : (ivs zs).toArray[j]? = some (.int .i64 zs[j]) := by simp [ivs, hj]
theorem Form_ok (op : Int) (w : World) : Calls Try.prog 91 #[.int .i64 op] w fun e w' => e = .returned (.int .i64 (form op : Int)) ∧ New w w' := by
  refine enter ok Try.func91 rfl rfl rfl ?_
  rw [← forms]
  refine seq_cut (σ := Unit) (fun _ => [(0, .int .i64 op)]) (fun _ w' => w' = w) ?_ ?_
  rotate_left
  · intro K hK
    exact hK () _ _ ⟨rfl, trivial⟩ rfl
  rintro _ w0 fr0 hw0
  obtain rfl := hw0.symm
  refine seq_cut (σ := Unit) (fun _ => [(0, .int .i64 op), (3, .slice (some ⟨w.heap.size, 0, none⟩) 46 46)]) (fun _ w' => New w w' ∧ w'.heap[w.heap.size]? = some (.cells (ivs (L1 ++ L2)).toArray 3 (0, 0))) ?_ ?_
  rotate_left
  · intro K hK
    refine Exists.intro (ivs (L1 ++ L2)) (And.intro (by kernel_rfl) ?_)
    exact hK () _ _ ⟨rfl, rfl, trivial⟩ ⟨New.alloc w _, heap_alloc_new w _⟩
  rintro _ w1 fr1 ⟨n1, hT⟩
  have hlen : (L1 ++ L2).length = 46 := rfl
  have hc : ∀ j (hj : j < (L1 ++ L2).length), w1.cell? ((⟨w.heap.size, 0, none⟩ : Addr).add j) = some (.int .i64 (L1 ++ L2)[j]) := fun j hj => cellB hT (ivs_at _ j hj)
  unfold refForm
  generalize L1 ++ L2 = zs at hlen hc
  refine seq_cut (σ := Unit) (fun _ => [(0, .int .i64 op)]) (fun _ w' => w' = w1 ∧ inL op zs = false) ?_ ?_
  rotate_left
  · intro K hK
    refine den_loop (σ := Nat) (fun i => [(0, .int .i64 op), (3, .slice (some ⟨w.heap.size, 0, none⟩) 46 46), (4, .int .i64 (i : Int))]) (fun m i wl => i ≤ 46 ∧ i % 2 = 0 ∧ m = 46 - i ∧ inL op (zs.drop i) = inL op zs ∧ wl = w1) 46 0
      ⟨rfl, rfl, rfl, trivial⟩ ⟨by omega, rfl, rfl, rfl, rfl⟩ ?_
    rintro m i wl frl ⟨hi, h20, rfl, hin, rfl⟩
    refine if_p (fun hlt => ?_) (fun hge => ?_)
    · replace hlt : (i : Int) < 46 := hlt
      have hi1 : i + 1 < zs.length := by omega
      refine And.intro (by omega) (And.intro hlt ?_)
      have inc : IntKind.i64.wrap ((i : Int) + 1) = ((i + 1 : Nat) : Int) := by
        rw [wrap_i64 (by omega) (by omega)]
        rfl
      have inc2 : Value.int .i64 (IntKind.i64.wrap ((i : Int) + 2)) = .int .i64 ((i + 2 : Nat) : Int) := by
        rw [wrap_i64 (by omega) (by omega)]
        rfl
      have hst := inL_step (op := op) hi1
      rw [hin] at hst
      refine Exists.intro (zs[i]'(by omega)) (And.intro (by rw [Int.toNat_natCast, Nat.mul_one]; exact hc i (by omega)) ?_)
      refine if_p (fun hle => ?_) (fun hgt => ?_)
      · rw [decide_eq_true (show zs[i] ≤ op from hle), Bool.true_and] at hst
        refine And.intro (by rw [inc]; omega) (And.intro (by rw [inc]; omega) ?_)
        refine Exists.intro zs[i + 1] (And.intro (by rw [inc, Int.toNat_natCast, Nat.mul_one]; exact hc (i + 1) hi1) ?_)
        refine if_p (fun hle2 => ?_) (fun hgt2 => ?_)
        · rw [decide_eq_true (show op ≤ zs[i + 1] from hle2), Bool.true_or] at hst
          rw [if_pos hst]
          exact ⟨rfl, n1⟩
        · rw [decide_eq_false (show ¬ op ≤ zs[i + 1] from hgt2), Bool.false_or] at hst
          exact ⟨46 - (i + 2), i + 2, by omega, ⟨rfl, rfl, inc2, trivial⟩, by omega, by omega, rfl, hst.symm, rfl⟩
      · rw [decide_eq_false (show ¬ zs[i] ≤ op from hgt), Bool.false_and, Bool.false_or] at hst
        exact ⟨46 - (i + 2), i + 2, by omega, ⟨rfl, rfl, inc2, trivial⟩, by omega, by omega, rfl, hst.symm, rfl⟩
    · replace hge : ¬ (i : Int) < 46 := hge
      rw [List.drop_of_length_le (by omega)] at hin
      exact hK () _ _ ⟨rfl, trivial⟩ ⟨rfl, hin.symm⟩
  rintro _ w2 fr2 ⟨rfl, hno⟩
  rw [if_neg (by rw [hno]; decide)]
  clear hno hc hT
  refine seq_cut (σ := Unit) (fun _ => [(0, .int .i64 op)]) (fun _ w' => w' = w2 ∧ (if op = 16 then 2 else if op = 17 then 3 else if isOne op [18, 21, 22, 25, 54, 55, 58, 188] = true then 4 else if isOne op [19, 20, 178, 179, 180, 181, 182, 183, 184, 187, 189, 192, 193] = true then 5 else if op = 132 then 6 else if op = 170 then 8 else if op = 171 then 9 else if (153 ≤ op ∧ op ≤ 167) ∨ op = 198 ∨ op = 199 then 7 else 0) = if (153 ≤ op ∧ op ≤ 167) ∨ op = 198 ∨ op = 199 then 7 else 0) ?_ ?_
  rotate_left
  · intro K hK
    refine if_p (fun h => ?_) (fun h => ?_)
    · rw [if_pos (show op = 16 from h)]
      exact ⟨rfl, n1⟩
    rw [if_neg (show ¬ op = 16 from h)] at hK ⊢
    clear h
    refine if_p (fun h => ?_) (fun h => ?_)
    · rw [if_pos (show op = 17 from h)]
      exact ⟨rfl, n1⟩
    rw [if_neg (show ¬ op = 17 from h)] at hK ⊢
    clear h
    have hK0 := hK
    clear hK
    refine seq_cut (σ := Unit) (fun _ => [(0, .int .i64 op), (27, .int .i64 op), (32, .bool (isOne op [18, 21, 22, 25, 54, 55, 58, 188]))]) (fun _ w' => w' = w2) ?_ ?_
    rotate_left
    · intro K hK
      refine if_p (fun h => ?_) (fun h => ?_)
      · replace h : op = 18 := h
        exact hK () _ _ ⟨rfl, rfl, (show Value.bool (decide (op = 18)) = .bool (isOne op [18, 21, 22, 25, 54, 55, 58, 188]) by subst h; rfl), trivial⟩ rfl
      replace h : ¬ op = 18 := h
      have h18 := h
      clear h
      refine if_p (fun h => ?_) (fun h => ?_)
      · replace h : op = 21 := h
        exact hK () _ _ ⟨rfl, rfl, (show Value.bool (decide (op = 21)) = .bool (isOne op [18, 21, 22, 25, 54, 55, 58, 188]) by subst h; rfl), trivial⟩ rfl
      replace h : ¬ op = 21 := h
      have h21 := h
      clear h
      refine if_p (fun h => ?_) (fun h => ?_)
      · replace h : op = 22 := h
        exact hK () _ _ ⟨rfl, rfl, (show Value.bool (decide (op = 22)) = .bool (isOne op [18, 21, 22, 25, 54, 55, 58, 188]) by subst h; rfl), trivial⟩ rfl
      replace h : ¬ op = 22 := h
      have h22 := h
      clear h
      refine if_p (fun h => ?_) (fun h => ?_)
      · replace h : op = 25 := h
        exact hK () _ _ ⟨rfl, rfl, (show Value.bool (decide (op = 25)) = .bool (isOne op [18, 21, 22, 25, 54, 55, 58, 188]) by subst h; rfl), trivial⟩ rfl
      replace h : ¬ op = 25 := h
      have h25 := h
      clear h
      refine if_p (fun h => ?_) (fun h => ?_)
      · replace h : op = 54 := h
        exact hK () _ _ ⟨rfl, rfl, (show Value.bool (decide (op = 54)) = .bool (isOne op [18, 21, 22, 25, 54, 55, 58, 188]) by subst h; rfl), trivial⟩ rfl
      replace h : ¬ op = 54 := h
      have h54 := h
      clear h
      refine if_p (fun h => ?_) (fun h => ?_)
      · replace h : op = 55 := h
        exact hK () _ _ ⟨rfl, rfl, (show Value.bool (decide (op = 55)) = .bool (isOne op [18, 21, 22, 25, 54, 55, 58, 188]) by subst h; rfl), trivial⟩ rfl
      replace h : ¬ op = 55 := h
      have h55 := h
      clear h
      refine if_p (fun h => ?_) (fun h => ?_)
      · replace h : op = 58 := h
        exact hK () _ _ ⟨rfl, rfl, (show Value.bool (decide (op = 58)) = .bool (isOne op [18, 21, 22, 25, 54, 55, 58, 188]) by subst h; rfl), trivial⟩ rfl
      replace h : ¬ op = 58 := h
      have h58 := h
      clear h
      refine hK () _ _ ⟨rfl, rfl, (show Value.bool (decide (op = 188)) = .bool (isOne op [18, 21, 22, 25, 54, 55, 58, 188]) from ?_), trivial⟩ rfl
      unfold isOne
      simp only [List.any_cons, List.any_nil, Bool.or_false, decide_eq_false h18, decide_eq_false h21, decide_eq_false h22, decide_eq_false h25, decide_eq_false h54, decide_eq_false h55, decide_eq_false h58, Bool.false_or]
    rintro _ w3 fr3 rfl
    refine if_ (fun h => ?_) (fun h => ?_)
    · rw [if_pos h]
      exact ⟨rfl, n1⟩
    rw [if_neg (by rw [h]; decide)] at hK0 ⊢
    clear h
    refine seq_cut (σ := Unit) (fun _ => [(0, .int .i64 op), (27, .int .i64 op), (41, .bool (isOne op [19, 20, 178, 179, 180, 181, 182, 183, 184, 187, 189, 192, 193]))]) (fun _ w' => w' = w3) ?_ ?_
    rotate_left
    · intro K hK
      refine if_p (fun h => ?_) (fun h => ?_)
      · replace h : op = 19 := h
        exact hK () _ _ ⟨rfl, rfl, (show Value.bool (decide (op = 19)) = .bool (isOne op [19, 20, 178, 179, 180, 181, 182, 183, 184, 187, 189, 192, 193]) by subst h; rfl), trivial⟩ rfl
      replace h : ¬ op = 19 := h
      have h19 := h
      clear h
      refine if_p (fun h => ?_) (fun h => ?_)
      · replace h : op = 20 := h
        exact hK () _ _ ⟨rfl, rfl, (show Value.bool (decide (op = 20)) = .bool (isOne op [19, 20, 178, 179, 180, 181, 182, 183, 184, 187, 189, 192, 193]) by subst h; rfl), trivial⟩ rfl
      replace h : ¬ op = 20 := h
      have h20 := h
      clear h
      refine if_p (fun h => ?_) (fun h => ?_)
      · replace h : op = 178 := h
        exact hK () _ _ ⟨rfl, rfl, (show Value.bool (decide (op = 178)) = .bool (isOne op [19, 20, 178, 179, 180, 181, 182, 183, 184, 187, 189, 192, 193]) by subst h; rfl), trivial⟩ rfl
      replace h : ¬ op = 178 := h
      have h178 := h
      clear h
      refine if_p (fun h => ?_) (fun h => ?_)
      · replace h : op = 179 := h
        exact hK () _ _ ⟨rfl, rfl, (show Value.bool (decide (op = 179)) = .bool (isOne op [19, 20, 178, 179, 180, 181, 182, 183, 184, 187, 189, 192, 193]) by subst h; rfl), trivial⟩ rfl
      replace h : ¬ op = 179 := h
      have h179 := h
      clear h
      refine if_p (fun h => ?_) (fun h => ?_)
      · replace h : op = 180 := h
        exact hK () _ _ ⟨rfl, rfl, (show Value.bool (decide (op = 180)) = .bool (isOne op [19, 20, 178, 179, 180, 181, 182, 183, 184, 187, 189, 192, 193]) by subst h; rfl), trivial⟩ rfl
      replace h : ¬ op = 180 := h
      have h180 := h
      clear h
      refine if_p (fun h => ?_) (fun h => ?_)
      · replace h : op = 181 := h
        exact hK () _ _ ⟨rfl, rfl, (show Value.bool (decide (op = 181)) = .bool (isOne op [19, 20, 178, 179, 180, 181, 182, 183, 184, 187, 189, 192, 193]) by subst h; rfl), trivial⟩ rfl
      replace h : ¬ op = 181 := h
      have h181 := h
      clear h
      refine if_p (fun h => ?_) (fun h => ?_)
      · replace h : op = 182 := h
        exact hK () _ _ ⟨rfl, rfl, (show Value.bool (decide (op = 182)) = .bool (isOne op [19, 20, 178, 179, 180, 181, 182, 183, 184, 187, 189, 192, 193]) by subst h; rfl), trivial⟩ rfl
      replace h : ¬ op = 182 := h
      have h182 := h
      clear h
      refine if_p (fun h => ?_) (fun h => ?_)
      · replace h : op = 183 := h
        exact hK () _ _ ⟨rfl, rfl, (show Value.bool (decide (op = 183)) = .bool (isOne op [19, 20, 178, 179, 180, 181, 182, 183, 184, 187, 189, 192, 193]) by subst h; rfl), trivial⟩ rfl
      replace h : ¬ op = 183 := h
      have h183 := h
      clear h
      refine if_p (fun h => ?_) (fun h => ?_)
      · replace h : op = 184 := h
        exact hK () _ _ ⟨rfl, rfl, (show Value.bool (decide (op = 184)) = .bool (isOne op [19, 20, 178, 179, 180, 181, 182, 183, 184, 187, 189, 192, 193]) by subst h; rfl), trivial⟩ rfl
      replace h : ¬ op = 184 := h
      have h184 := h
      clear h
      refine if_p (fun h => ?_) (fun h => ?_)
      · replace h : op = 187 := h
        exact hK () _ _ ⟨rfl, rfl, (show Value.bool (decide (op = 187)) = .bool (isOne op [19, 20, 178, 179, 180, 181, 182, 183, 184, 187, 189, 192, 193]) by subst h; rfl), trivial⟩ rfl
      replace h : ¬ op = 187 := h
      have h187 := h
      clear h
      refine if_p (fun h => ?_) (fun h => ?_)
      · replace h : op = 189 := h
        exact hK () _ _ ⟨rfl, rfl, (show Value.bool (decide (op = 189)) = .bool (isOne op [19, 20, 178, 179, 180, 181, 182, 183, 184, 187, 189, 192, 193]) by subst h; rfl), trivial⟩ rfl
      replace h : ¬ op = 189 := h
      have h189 := h
      clear h
      refine if_p (fun h => ?_) (fun h => ?_)
      · replace h : op = 192 := h
        exact hK () _ _ ⟨rfl, rfl, (show Value.bool (decide (op = 192)) = .bool (isOne op [19, 20, 178, 179, 180, 181, 182, 183, 184, 187, 189, 192, 193]) by subst h; rfl), trivial⟩ rfl
      replace h : ¬ op = 192 := h
      have h192 := h
      clear h
      refine hK () _ _ ⟨rfl, rfl, (show Value.bool (decide (op = 193)) = .bool (isOne op [19, 20, 178, 179, 180, 181, 182, 183, 184, 187, 189, 192, 193]) from ?_), trivial⟩ rfl
      unfold isOne
      simp only [List.any_cons, List.any_nil, Bool.or_false, decide_eq_false h19, decide_eq_false h20, decide_eq_false h178, decide_eq_false h179, decide_eq_false h180, decide_eq_false h181, decide_eq_false h182, decide_eq_false h183, decide_eq_false h184, decide_eq_false h187, decide_eq_false h189, decide_eq_false h192, Bool.false_or]
    rintro _ w4 fr4 rfl
    refine if_ (fun h => ?_) (fun h => ?_)
    · rw [if_pos h]
      exact ⟨rfl, n1⟩
    rw [if_neg (by rw [h]; decide)] at hK0 ⊢
    clear h
    refine if_p (fun h => ?_) (fun h => ?_)
    · rw [if_pos (show op = 132 from h)]
      exact ⟨rfl, n1⟩
    rw [if_neg (show ¬ op = 132 from h)] at hK0 ⊢
    clear h
    refine if_p (fun h => ?_) (fun h => ?_)
    · rw [if_pos (show op = 170 from h)]
      exact ⟨rfl, n1⟩
    rw [if_neg (show ¬ op = 170 from h)] at hK0 ⊢
    clear h
    refine if_p (fun h => ?_) (fun h => ?_)
    · rw [if_pos (show op = 171 from h)]
      exact ⟨rfl, n1⟩
    rw [if_neg (show ¬ op = 171 from h)] at hK0 ⊢
    clear h
    exact hK0 () _ _ ⟨rfl, trivial⟩ ⟨rfl, rfl⟩
  rintro _ w3 fr3 ⟨rfl, heq⟩
  rw [heq]
  clear heq
  have yes : ∀ w' : World, w' = w3 → ((153 ≤ op ∧ op ≤ 167) ∨ op = 198 ∨ op = 199) → Ending.returned (.int .i64 7) = .returned (.int .i64 ((if (153 ≤ op ∧ op ≤ 167) ∨ op = 198 ∨ op = 199 then 7 else 0 : Nat) : Int)) ∧ New w w' := fun w' e h => by
    rw [if_pos h, e]
    exact ⟨rfl, n1⟩
  have tail : ∀ w' : World, w' = w3 → ¬ ((153 ≤ op ∧ op ≤ 167) ∨ op = 198 ∨ op = 199) → Ending.returned (.int .i64 0) = .returned (.int .i64 ((if (153 ≤ op ∧ op ≤ 167) ∨ op = 198 ∨ op = 199 then 7 else 0 : Nat) : Int)) ∧ New w w' := fun w' e h => by
    rw [if_neg h, e]
    exact ⟨rfl, n1⟩
  refine if_p (fun h1 => ?_) (fun h1 => ?_)
  · replace h1 : 153 ≤ op := h1
    refine if_p (fun h2 => ?_) (fun h2 => ?_)
    · exact yes _ rfl (.inl ⟨h1, h2⟩)
    · replace h2 : ¬ op ≤ 167 := h2
      refine if_p (fun h3 => ?_) (fun h3 => ?_)
      · exact yes _ rfl (.inr (.inl h3))
      · replace h3 : ¬ op = 198 := h3
        refine if_p (fun h4 => ?_) (fun h4 => ?_)
        · exact yes _ rfl (.inr (.inr h4))
        · replace h4 : ¬ op = 199 := h4
          exact tail _ rfl (by omega)
  · replace h1 : ¬ 153 ≤ op := h1
    refine if_p (fun h3 => ?_) (fun h3 => ?_)
    · exact yes _ rfl (.inr (.inl h3))
    · replace h3 : ¬ op = 198 := h3
      refine if_p (fun h4 => ?_) (fun h4 => ?_)
      · exact yes _ rfl (.inr (.inr h4))
      · replace h4 : ¬ op = 199 := h4
        exact tail _ rfl (by omega)
theorem rpad_ok (p : Nat) (w : World) (hp : p ≤ 140737488355328) : Calls Try.prog 92 #[.int .i64 (p : Int)] w fun e w' => e = .returned (.int .i64 (padOf p : Int)) ∧ w' = w := by
  refine enter ok Try.func92 rfl rfl rfl ?_
  refine And.intro (by omega) (And.intro (by omega) ⟨?_, rfl⟩)
  show Ending.returned (.int .i64 ((IntKind.i64.wrap (4 - (IntKind.i64.wrap ((p : Int) + 1)).tmod 4)).tmod 4)) = _
  have e1 : IntKind.i64.wrap ((p : Int) + 1) = ((p + 1 : Nat) : Int) := by
    rw [wrap_i64 (by omega) (by omega)]
    rfl
  have e2 : (((p + 1 : Nat) : Int)).tmod 4 = (((p + 1) % 4 : Nat) : Int) := by
    rw [Int.tmod_eq_emod_of_nonneg (by omega)]
    omega
  have h4 : (p + 1) % 4 < 4 := Nat.mod_lt _ (by decide)
  have e3 : IntKind.i64.wrap (4 - (((p + 1) % 4 : Nat) : Int)) = ((4 - (p + 1) % 4 : Nat) : Int) := by
    rw [wrap_i64 (by omega) (by omega)]
    omega
  have e4 : (((4 - (p + 1) % 4 : Nat) : Int)).tmod 4 = (((4 - (p + 1) % 4) % 4 : Nat) : Int) := by
    rw [Int.tmod_eq_emod_of_nonneg (by omega)]
    omega
  rw [e1, e2, e3, e4]
  unfold padOf
  congr 2
  omega
end Go.Proofs.Ytcpeekeiflglpaa.Code
