/- The package pool and its reference, walked: texts, tags, what fits, what is right. -/
import Derived.Test.YtbmlfbcanjobfaaPOpen
import Derived.Test.YtbmlfbcanjobfaaIter
import Derived.Test.YtbmlfbcanjobfaaCell
import Derived.Test.YtbmlfbcanjobfaaEq
import Derived.Test.YtbmlfbcanjobfaaBase
import Derived.Test.YtbmlfbcanjobfaaRow2
namespace Go.Proofs.Ytbmlfbcanjobfaa.Pool
open Go Go.Proofs.Ytbmlfbcanjobfaa Go.Proofs.Ytbmlfbcanjobfaa.Eng Go.Proofs
set_option maxRecDepth 10000

theorem size_str (d : List UInt8) : (ByteArray.mk d.toArray).size = d.length := by simp [ByteArray.size]
theorem get_str (d : List UInt8) (i : Nat) (h : i < (ByteArray.mk d.toArray).size) (h' : i < d.length) : (ByteArray.mk d.toArray)[i]'h = d[i] := by
  show d.toArray[i]'(by simpa using h') = _
  simp
def okB1 (c : UInt8) : Bool := decide (33 ≤ c.toNat) && decide (c.toNat ≤ 126)
theorem rune_ok (c : Int) (w : World) : Calls Try.prog 80 #[.int .i32 c] w fun e w' => e = .returned (.bool (decide (c < 33) || decide (126 < c))) ∧ w' = w := by
  refine enter ok Try.func80 rfl rfl rfl ?_
  refine if_p (fun h => ⟨?_, rfl⟩) (fun h => ⟨?_, rfl⟩)
  · rw [decide_eq_true h]; rfl
  · rw [decide_eq_false h]; rfl
theorem indexFunc_ok (s : List UInt8) (w : World) (hs : s.length ≤ 9223372036854775807) :
    Calls Try.prog 98 #[strV s, .func (.func 80) #[] #[], .bool true] w fun e w' => ∃ z : Int, e = .returned (.int .i64 z) ∧ decide (0 ≤ z) = !s.all okB1 ∧ New w w' := by
  refine enter ok Try.func98 rfl rfl rfl ?_
  refine seq_assign (seq_ (seq_ (region_ ?_)))
  refine op_ rfl (op_move rfl (op_ rfl (op_range rfl ?_)))
  refine rangeS_ (P := Try.prog) (s := ⟨s.toArray⟩) rfl uStr rfl ?_
  refine den_loop (σ := Nat) (fun _ => [(1, .func (.func 80) #[] #[]), (2, .bool true), (10, .pointer (some ⟨w.heap.size, 0, none⟩))])
    (fun m p wl => p ≤ s.length ∧ m = s.length - p ∧ (∀ j (h : j < s.length), j < p → okB1 s[j] = true) ∧ wl = w.iter ⟨s.toArray⟩ p) s.length 0 ⟨rfl, rfl, rfl, trivial⟩ ⟨Nat.zero_le _, rfl, fun j _ h => absurd h (Nat.not_lt_zero _), rfl⟩ ?_
  rintro m p wl fr0 ⟨hp, rfl, hall, rfl⟩
  refine seq_ (region_ (op_ rfl (op_next rfl ?_)))
  refine nextS_ (P := Try.prog) (s := ⟨s.toArray⟩) rfl rfl (fun hlt => ?_) (fun hge => ?_)
  · have hl : p < s.length := by rw [size_str] at hlt; exact hlt
    refine call_ (rune_ok _ _) ?_
    rintro e w' ⟨rfl, rfl⟩
    refine ⟨_, rfl, ?_⟩
    have hg := get_str s p hlt hl
    by_cases ha : (s[p]).toNat < 128
    · rw [decode_ascii _ p hlt (by rw [hg]; exact ha), hg]
      dsimp only
      by_cases hb : okB1 s[p] = true
      · have hb' := hb
        unfold okB1 at hb'
        simp only [Bool.and_eq_true, decide_eq_true_eq] at hb'
        refine if_no (b := decide _) ?_ ?_
        · refine decide_eq_false ?_
          rw [decide_eq_false (by omega), decide_eq_false (by omega)]
          decide
        · refine ⟨s.length - (p + 1), p + 1, by omega, ⟨rfl, rfl, rfl, trivial⟩, by omega, rfl, fun j hj hjp => ?_, rfl⟩
          rcases Nat.lt_or_ge j p with h | h
          · exact hall j hj h
          · have : j = p := by omega
            subst this
            exact hb
      · have hb' : ¬ (33 ≤ (s[p]).toNat ∧ (s[p]).toNat ≤ 126) := by
          intro h
          apply hb
          unfold okB1
          rw [decide_eq_true h.1, decide_eq_true h.2]
          rfl
        refine if_yes (b := decide _) ?_ ?_
        · refine decide_eq_true ?_
          by_cases h33 : (s[p]).toNat < 33
          · rw [decide_eq_true (by omega)]; rfl
          · rw [decide_eq_true (p := 126 < _) (by omega), Bool.or_true]
        · refine ⟨(p : Int), rfl, ?_, New.iter _ _ _⟩
          rw [decide_eq_true (by omega)]
          have : s.all okB1 = false := List.all_eq_false.2 ⟨_, List.getElem_mem hl, by simpa using hb⟩
          rw [this]
          rfl
    · obtain ⟨h1, _⟩ := decode_high (ByteArray.mk s.toArray) p hlt (by rw [hg]; omega)
      generalize Utf8.decode (ByteArray.mk s.toArray) p = r at h1
      refine if_yes (b := decide _) ?_ ?_
      · refine decide_eq_true ?_
        rw [decide_eq_true (p := 126 < _) (by omega), Bool.or_true]
      · refine ⟨(p : Int), rfl, ?_, New.iter _ _ _⟩
        rw [decide_eq_true (by omega)]
        have : s.all okB1 = false := List.all_eq_false.2 ⟨_, List.getElem_mem hl, by
          unfold okB1
          rw [decide_eq_false (p := (s[p]).toNat ≤ 126) (by omega), Bool.and_false]
          decide⟩
        rw [this]
        rfl
  · have hl : p = s.length := by rw [size_str] at hge; omega
    refine ⟨-1, rfl, ?_, New.iter _ _ _⟩
    have : s.all okB1 = true := List.all_eq_true.2 fun x hx => by
      obtain ⟨j, hj, rfl⟩ := List.getElem_of_mem hx
      exact hall j hj (by omega)
    rw [this]
    rfl
theorem right_ok (s : List UInt8) (w : World) (hs : s.length ≤ 9223372036854775807) :
    Calls Try.prog 59 #[strV s] w fun e w' => e = .returned (.bool (rightT s)) ∧ New w w' := by
  refine enter ok Try.func59 rfl rfl rfl ?_
  refine if_p (fun h => ?_) (fun h => ?_)
  · replace h : ((ByteArray.mk s.toArray).size : Int) ≤ 255 := h
    rw [size_str] at h
    have hI := indexFunc_ok s w hs
    have hC : Calls Try.prog 79 #[strV s, .func (.func 80) #[] #[]] w fun e w' => e = .returned (.bool (!s.all okB1)) ∧ New w w' := by
      refine enter ok Try.func79 rfl rfl rfl ?_
      refine call_ (R := fun e w' => ∃ z : Int, e = .returned (.int .i64 z) ∧ decide (0 ≤ z) = !s.all okB1 ∧ New w w') (enter ok Try.func95 rfl rfl rfl (call_ hI (by
        rintro e w' ⟨z, rfl, h1, h2⟩
        exact ⟨_, rfl, z, rfl, h1, h2⟩))) ?_
      rintro e w' ⟨z, rfl, h1, h2⟩
      refine ⟨_, rfl, ?_, h2⟩
      rw [← h1]
      rfl
    refine call_ hC ?_
    rintro e w' ⟨rfl, h2⟩
    refine ⟨_, rfl, ?_, h2⟩
    show Ending.returned (.bool (!!s.all okB1)) = .returned (.bool (decide (s.length ≤ 255) && s.all okB1))
    rw [decide_eq_true (by omega), Bool.not_not, Bool.true_and]
  · replace h : ¬ (((ByteArray.mk s.toArray).size : Nat) : Int) ≤ 255 := h
    rw [size_str] at h
    refine ⟨?_, New.refl _⟩
    show Ending.returned (.bool false) = .returned (.bool (decide (s.length ≤ 255) && s.all okB1))
    have h' : ¬ s.length ≤ 255 := by omega
    rw [decide_eq_false h', Bool.false_and]
theorem small_ok (n : Int) (w : World) (hn : I64 n) : Calls Try.prog 57 #[.int .i64 n] w fun e w' => e = .returned (.bool (small n)) ∧ w' = w := by
  refine enter ok Try.func57 rfl rfl rfl ?_
  refine ⟨?_, rfl⟩
  show Ending.returned (.bool (decide (n = IntKind.i64.wrap (IntKind.i32.wrap n)))) = _
  have e : IntKind.i32.wrap n = (n + 2147483648) % 4294967296 - 2147483648 := by
    simp [IntKind.wrap, IntKind.bits, IntKind.signed]
    split <;> omega
  unfold small
  rw [e, wrap_i64 (by omega) (by omega)]
  by_cases h : -2147483648 ≤ n ∧ n ≤ 2147483647
  · rw [decide_eq_true h.1, decide_eq_true h.2, decide_eq_true (by omega)]
    rfl
  · rw [decide_eq_false (by omega)]
    by_cases h1 : -2147483648 ≤ n
    · rw [decide_eq_false (p := n ≤ 2147483647) (by omega), Bool.and_false]
    · rw [decide_eq_false h1, Bool.false_and]
/-- A pool in memory. -/
structure Pl (w : World) (A : Option Addr) (n : Nat) (l : List Ent) : Prop where
  len : n = l.length
  row : Rows2 w A 5 (l.map entC)
  oks : ∀ x ∈ l, EntOk x
  top : n ≤ 9223372036854775807
theorem Pl.new {w w' : World} {A : Option Addr} {n : Nat} {l : List Ent} (h : Pl w A n l) (k : New w w') : Pl w' A n l := ⟨h.len, h.row.new k, h.oks, h.top⟩
theorem Pl.at_ {w : World} {A : Option Addr} {n : Nat} {l : List Ent} (h : Pl w A n l) {i : Nat} (hi : i < n) : ∃ a, A = some a ∧ EntOk (at_ l i) ∧ ∀ j u, (entC (at_ l i))[j]? = some u → w.cell? ((a.add (i * 5)).add j) = some u := by
  have hl : i < l.length := by rw [← h.len]; exact hi
  obtain ⟨a, ha, hc⟩ := h.row.at_ i (by simpa using hl)
  refine ⟨a, ha, ?_, ?_⟩
  · rw [at_lt hl]; exact h.oks _ (List.getElem_mem _)
  · intro j u hu
    rw [at_lt hl] at hu
    exact hc j u (by simpa using hu)
theorem tag_ok (A : Option Addr) (n c : Nat) (l : List Ent) (i : Int) (w : World) (h : Pl w A n l) :
    Calls Try.prog 37 #[.slice A n c, .int .i64 i] w fun e w' => e = .returned (.int .i64 (tagAt l i)) ∧ w' = w := by
  refine enter ok Try.func37 rfl rfl rfl ?_
  have hl := h.len
  unfold tagAt
  refine if_p (fun h0 => by rw [if_pos (.inl h0)]; exact ⟨rfl, rfl⟩) (fun h0 => ?_)
  replace h0 : ¬ i < 0 := h0
  refine if_p (fun h1 => by rw [if_pos (.inr (by rw [← hl]; exact h1))]; exact ⟨rfl, rfl⟩) (fun h1 => ?_)
  replace h1 : ¬ (n : Int) ≤ i := h1
  rw [if_neg (by omega)]
  obtain ⟨k, rfl⟩ : ∃ k : Nat, i = k := ⟨i.toNat, by omega⟩
  obtain ⟨a, rfl, _, hc⟩ := h.at_ (i := k) (by omega)
  refine And.intro (by omega) (And.intro (by omega) ?_)
  refine Exists.intro (at_ l k).tag ?_
  exact And.intro (by rw [Int.toNat_natCast]; exact hc 0 _ rfl) ⟨rfl, rfl⟩
theorem rtag_ok (A : Option Addr) (n c : Nat) (l : List Ent) (i : Int) (w : World) (h : Pl w A n l) :
    Calls Try.prog 39 #[.slice A n c, .int .i64 i] w fun e w' => e = .returned (.int .i64 (tagAt l i)) ∧ w' = w := by
  refine enter ok Try.func39 rfl rfl rfl ?_
  have hl := h.len
  unfold tagAt
  refine if_p (fun h0 => by rw [if_pos (.inl h0)]; exact ⟨rfl, rfl⟩) (fun h0 => ?_)
  replace h0 : ¬ i < 0 := h0
  refine if_p (fun h1 => by rw [if_pos (.inr (by rw [← hl]; exact h1))]; exact ⟨rfl, rfl⟩) (fun h1 => ?_)
  replace h1 : ¬ (n : Int) ≤ i := h1
  rw [if_neg (by omega)]
  obtain ⟨k, rfl⟩ : ∃ k : Nat, i = k := ⟨i.toNat, by omega⟩
  obtain ⟨a, rfl, _, hc⟩ := h.at_ (i := k) (by omega)
  refine And.intro (by omega) (And.intro (by omega) ?_)
  refine Exists.intro (at_ l k).tag ?_
  exact And.intro (by rw [Int.toNat_natCast]; exact hc 0 _ rfl) ⟨rfl, rfl⟩
theorem entC_one (x : Ent) : ∀ u ∈ entC x, u.oneCell' = true := by
  intro u hu
  simp [entC] at hu
  rcases hu with rfl | rfl | rfl | rfl | rfl <;> rfl
theorem entEq (x y : Ent) : decide (x = y) = (decide (x.tag = y.tag) && (decide ((⟨x.text.toArray⟩ : ByteArray) = ⟨y.text.toArray⟩) && (decide (x.n = y.n) && (decide (x.a = y.a) && (decide (x.b = y.b) && true))))) := by
  rw [Base.same_iff]
  by_cases h : x = y
  · subst h; simp
  · rw [decide_eq_false h]
    symm
    have h' : ¬ (x.tag = y.tag ∧ x.text = y.text ∧ x.n = y.n ∧ x.a = y.a ∧ x.b = y.b) := fun e => h ((Ent.iff x y).1 e)
    simpa using h'
/-- Entries compared. -/
theorem ent_eql {o : Oper} {x y : Operand} {u : TypeId} {fr : Fr} {p q : Ent} {w : World} {K : Fr → World → Prop} (ho : o.op = .binOp .eql 67 x y u) (hx : ev fr x = entV p) (hy : ev fr y = entV q) (k : K (putF fr o.dst (.bool (decide (p = q)))) w) : raw Try.prog o fr w K :=
  raw_value (agg_cmp ok ho rfl rfl (by kernel_rfl) (by kernel_rfl) hx hy rfl (decide (p = q)) (.inl ⟨rfl, entEq p q⟩) w) k
theorem ent_neq {o : Oper} {x y : Operand} {u : TypeId} {fr : Fr} {p q : Ent} {w : World} {K : Fr → World → Prop} (ho : o.op = .binOp .neq 67 x y u) (hx : ev fr x = entV p) (hy : ev fr y = entV q) (k : K (putF fr o.dst (.bool (!decide (p = q)))) w) : raw Try.prog o fr w K :=
  raw_value (agg_cmp ok ho rfl rfl (by kernel_rfl) (by kernel_rfl) hx hy rfl (!decide (p = q)) (.inr ⟨rfl, congrArg (!·) (entEq p q)⟩) w) k
end Go.Proofs.Ytbmlfbcanjobfaa.Pool
