/- The package word, walked: what is left of reader and writer. -/
import Derived.Test.YteanhakkceancaaWAll
namespace Go.Proofs.Yteanhakkceancaa.Word
open Go Go.Proofs.Yteanhakkceancaa Go.Proofs.Yteanhakkceancaa.Eng Go.Proofs
set_option maxRecDepth 10000

theorem row_none {w : World} {bs : List UInt8} (h : Row w none (bvs bs)) : bs = [] := by
  cases bs with
  | nil => rfl
  | cons b r => obtain ⟨a, ha, _⟩ := h 0 (bv b) rfl; cases ha
theorem Clone_ok (A : Option Addr) (n c : Nat) (bs : List UInt8) (w : World) (hn : n = bs.length) (hr : Row w A (bvs bs)) (hm : n ≤ 140737488355328) :
    Calls Try.prog 65 #[.slice A n c] w fun e w' => ∃ v, e = .returned v ∧ w'.ownsRow w.heap.size 5 1 v n (bvs bs) ∧ New w w' := by
  refine enter ok Try.func65 rfl rfl rfl ?_
  refine if_ (fun h => ?_) (fun h => ?_)
  · cases A with
    | some a => cases h
    | none =>
      have := row_none hr
      subst this
      subst hn
      exact ⟨_, rfl, ⟨rfl, .inl ⟨rfl, rfl⟩⟩, New.refl _⟩
  · refine append_ ok rfl rfl rfl rfl (own_lit w [] 5 1 0 w.heap.size (Nat.le_refl _) rfl (by omega)) rfl rfl (hr.new (New.alloc _ _)) (by rw [bvs_length, hn]; exact (Nat.mul_one _).symm) (bvs_one bs) (by decide) rfl (by show (0 + n) * 1 ≤ _; omega) (by omega) (by simp) ?_
    intro A' c' w' hown hmod
    refine ⟨_, rfl, ?_, ?_⟩
    · rw [Nat.zero_add] at hown ⊢
      exact hown
    · refine Mod.trans (New.alloc w _) hmod ?_
      intro i hi h
      simp only [Value.ownBlock, Option.some.injEq] at h
      omega

theorem Len_ok (base g : Nat) (v : Value) (bs : List UInt8) (w : World) (h : Wr w base g v bs) : Calls Try.prog 30 #[.pointer (some ⟨g, 0, none⟩)] w fun e w' => e = .returned (.int .i64 bs.length) ∧ w' = w := by
  refine enter ok Try.func30 rfl rfl rfl ?_
  refine call_ (wis_ok _ true w h.is) ?_
  rintro e w' ⟨rfl, rfl⟩
  refine ⟨_, rfl, ?_⟩
  obtain ⟨A, c, rfl, _⟩ := own_slice h.own
  exact Exists.intro A (Exists.intro bs.length (Exists.intro c (And.intro (by rw [ad]; exact h.c0) ⟨rfl, rfl⟩)))
theorem All_ok (base g : Nat) (v : Value) (bs : List UInt8) (w : World) (h : Wr w base g v bs) (hm : bs.length ≤ 140737488355328) : Calls Try.prog 31 #[.pointer (some ⟨g, 0, none⟩)] w fun e w' => ∃ u, e = .returned u ∧ w'.ownsRow w.heap.size 5 1 u bs.length (bvs bs) ∧ New w w' := by
  refine enter ok Try.func31 rfl rfl rfl ?_
  refine call_ (wis_ok _ true w h.is) ?_
  rintro e w' ⟨rfl, rfl⟩
  refine ⟨_, rfl, ?_⟩
  obtain ⟨A, c, rfl, _, _, hrow, _⟩ := own_slice h.own
  refine Exists.intro A (Exists.intro bs.length (Exists.intro c (And.intro (by rw [ad]; exact h.c0) ?_)))
  refine call_ (Clone_ok A _ c bs w' rfl hrow hm) ?_
  rintro e w2 ⟨u, rfl, hown, hnew⟩
  obtain ⟨A2, c2, rfl, _⟩ := own_slice hown
  exact ⟨_, rfl, _, rfl, hown, hnew⟩
theorem WU_ok (base g : Nat) (v : Value) (bs : List UInt8) (k : Int) (C : Option Addr) (q qc : Nat) (zs : List Int) (w : World) (h : Wr w base g v bs) (hz : Row w C (ivs zs)) (hq : q = zs.length) (hC : ∀ a, C = some a → zs ≠ [] → ¬ WS g v a.block)
    (hm : bs.length + 8 * zs.length ≤ 140737488355328) (hbase : base ≤ w.heap.size) :
    Calls Try.prog 60 #[.pointer (some ⟨g, 0, none⟩), .int .i64 k, .slice C q qc] w fun e w' => e = .returned (.int .i64 (allErr k false zs)) ∧ ∃ v', Wr w' base g v' (allBs bs k false zs) ∧ Mod (WS g v) w w' ∧ stayed w v v' := by
  refine enter ok Try.func60 rfl rfl rfl ?_
  refine call_ (all_ok base g v bs k false C q qc zs w h hz hq hC hm hbase) ?_
  rintro e w' ⟨rfl, h2⟩
  exact ⟨_, rfl, rfl, h2⟩
theorem WS_ok (base g : Nat) (v : Value) (bs : List UInt8) (k : Int) (C : Option Addr) (q qc : Nat) (zs : List Int) (w : World) (h : Wr w base g v bs) (hz : Row w C (ivs zs)) (hq : q = zs.length) (hC : ∀ a, C = some a → zs ≠ [] → ¬ WS g v a.block)
    (hm : bs.length + 8 * zs.length ≤ 140737488355328) (hbase : base ≤ w.heap.size) :
    Calls Try.prog 59 #[.pointer (some ⟨g, 0, none⟩), .int .i64 k, .slice C q qc] w fun e w' => e = .returned (.int .i64 (allErr k true zs)) ∧ ∃ v', Wr w' base g v' (allBs bs k true zs) ∧ Mod (WS g v) w w' ∧ stayed w v v' := by
  refine enter ok Try.func59 rfl rfl rfl ?_
  refine call_ (all_ok base g v bs k true C q qc zs w h hz hq hC hm hbase) ?_
  rintro e w' ⟨rfl, h2⟩
  exact ⟨_, rfl, rfl, h2⟩

theorem S_ok (g : Nat) (A : Option Addr) (c : Nat) (bs : List UInt8) (i : Nat) (k : Int) (w : World) (h : Rd w g A c bs i) :
    Calls Try.prog 68 #[.pointer (some ⟨g, 0, none⟩), .int .i64 k] w fun e w' => e = .returned (.tuple #[.int .i64 (get true bs i k).1, .int .i64 (get true bs i k).2.1]) ∧ Rd w' g A c bs (get true bs i k).2.2 ∧ Mod (fun b => b = g) w w' := by
  refine enter ok Try.func68 rfl rfl rfl ?_
  refine call_ (wide_ok k w) ?_
  rintro e w' ⟨rfl, rfl⟩
  refine ⟨_, rfl, ?_⟩
  refine call_ (look_ok g A c bs i k (wide k) w' h) ?_
  rintro e w1 ⟨rfl, h1⟩
  refine ⟨_, rfl, ?_⟩
  have hw1 := h.new h1
  have ha := h.at_
  have hb := h.cap
  have hc := h.top
  have e1 : ∀ q : Int, (if wide k = true then if (bs.length : Int) - i < k then 7 else 0 else 2 : Int) = q → q ≠ 0 → get true bs i k = (0, q, i) := by
    intro q hq hne
    unfold get
    by_cases hwk : wide k = true
    · rw [if_pos hwk] at hq ⊢
      by_cases hl : (bs.length : Int) - i < k
      · rw [if_pos hl] at hq ⊢
        rw [hq]
      · rw [if_neg hl] at hq
        exact absurd hq.symm hne
    · rw [if_neg hwk] at hq ⊢
      rw [hq]
  have e2 : (if wide k = true then if (bs.length : Int) - i < k then 7 else 0 else 2 : Int) = 0 → wide k = true ∧ ¬ (bs.length : Int) - i < k := by
    intro hq
    by_cases hwk : wide k = true
    · rw [if_pos hwk] at hq
      by_cases hl : (bs.length : Int) - i < k
      · rw [if_pos hl] at hq
        cases hq
      · exact ⟨hwk, hl⟩
    · rw [if_neg hwk] at hq
      cases hq
  generalize (if wide k = true then if (bs.length : Int) - i < k then 7 else 0 else 2 : Int) = q at e1 e2
  refine if_n (fun hne => ?_) (fun he => ?_)
  · rw [e1 q rfl hne]
    exact ⟨rfl, hw1, h1.mod⟩
  obtain ⟨hwk, hl⟩ := e2 he
  have hk := wide_cases hwk
  obtain ⟨n, rfl⟩ : ∃ n : Nat, k = n := ⟨k.toNat, by omega⟩
  have hn8 : n ≤ 8 := by omega
  have hin : i + n ≤ bs.length := by omega
  have hg : get true bs i (n : Int) = (sval n (be ((bs.drop i).take n)), (0 : Int), i + n) := by
    unfold get
    rw [if_pos hwk, if_neg hl, if_pos rfl]
    rfl
  have ein : IntKind.i64.wrap ((i : Int) + (n : Int)) = ((i + n : Nat) : Int) := by
    rw [wrap_i64 (by omega) (by omega)]
    omega
  have elen : (IntKind.i64.wrap ((i : Int) + (n : Int))).toNat - (i : Int).toNat = n := by rw [ein]; omega
  refine draw_ ok (.q 0 (.q 1 (.q 2 (.q 3 (.q 4 (.q 5 (.q 6 (.q 7 (.q 8 (.q 9 (.q 10 (.q 11 (.q 12 (.q 13 (.q 14 (.q 15 (.q 16 (.q 17 (.q 18 (.q 19 .done)))))))))))))))))))) [] (New w1) (by kernel_rfl) (by kernel_rfl) (by kernel_rfl) (by kernel_rfl) (by kernel_rfl) (New.drew w1) ?_
  refine Exists.intro A (Exists.intro bs.length (Exists.intro c (And.intro (fun w'' hw => by rw [ad]; exact hw.cell hw1.c0) ?_)))
  refine Exists.intro (i : Int) (And.intro (fun w'' hw => by rw [ad]; exact hw.cell hw1.c1) ?_)
  refine Exists.intro (i : Int) (And.intro (fun w'' hw => by rw [ad]; exact hw.cell hw1.c1) ?_)
  refine And.intro (by omega) (And.intro (by rw [ein]; omega) (And.intro (by rw [ein]; omega) ?_))
  have hw2 := hw1.new (New.drew w1)
  refine den_loop (σ := Nat) (fun j => [(0, .pointer (some ⟨g, 0, none⟩)), (1, .int .i64 n), (7, .int .i64 (IntKind.i64.wrap ((be ((bs.drop i).take j) : Nat) : Int))), (36, .slice (slA A c i 1) n (c - i)), (37, .int .i64 n), (38, .int .i64 j)]) (fun m j w' => j ≤ n ∧ m = n - j ∧ w' = w1.drew) n 0 ?_ ⟨Nat.zero_le _, rfl, rfl⟩ ?_
  · refine ⟨rfl, rfl, rfl, ?_, ?_, rfl, trivial⟩
    · show Value.slice _ _ _ = Value.slice _ _ _
      rw [elen]
      rfl
    · show Value.int .i64 _ = Value.int .i64 _
      rw [elen]
  rintro m j w' fr0 ⟨hj, rfl, rfl⟩
  refine if_p (fun hlt => ?_) (fun hge => ?_)
  · obtain ⟨a, hsl, hcell⟩ := cut_cell hw2.row hb i j (by omega)
    refine And.intro (by omega) (And.intro hlt (some_at hsl (Exists.intro _ (And.intro (by rw [Int.toNat_natCast]; exact hcell) ?_))))
    refine And.intro (by decide) ⟨n - (j + 1), j + 1, by omega, ⟨rfl, rfl, ?_, rfl, rfl, ?_, trivial⟩, by omega, rfl, rfl⟩
    · show Value.int .i64 (bits _ _ _ _) = Value.int .i64 _
      have hbt := (bs.getD (i + j) 0).toBitVec.isLt
      have hbe := be_lt8 ((bs.drop i).take (j + 1)) (by rw [List.length_take]; omega)
      rw [be_take_succ bs i j (by omega)] at hbe
      rw [be_take_succ bs i j (by omega), ← or_shl_i _ _ _ rfl (by exact hbt) hbe]
      rfl
    · show Value.int .i64 (IntKind.i64.wrap _) = _
      rw [wrap_i64 (by omega) (by omega)]
      rfl
  · have : j = n := by omega
    subst this
    have hbe := be_lt ((bs.drop i).take j)
    rw [List.length_take, List.length_drop, Nat.min_eq_left (by omega)] at hbe
    rw [hg]
    obtain ⟨hput, hmod⟩ := hw2.put (j := i + j) hin (v := .int .i64 (IntKind.i64.wrap ((i : Int) + (j : Int)))) (by rw [ein])
    have e8 : IntKind.i64.wrap (64 - IntKind.i64.wrap (8 * (j : Int))) = 64 - 8 * (j : Int) := by
      rw [wrap_i64 (n := 8 * (j : Int)) (by omega) (by omega), wrap_i64 (by omega) (by omega)]
    refine Exists.intro (i : Int) (And.intro (by rw [ad]; exact hw2.c1) (And.intro ⟨_, by rw [ad]; exact hw2.c1⟩ (And.intro (by rw [ad]; exact hw2.fz 1) ?_)))
    refine And.intro (by rw [e8]; omega) (And.intro (by rw [e8]; omega) ⟨?_, ?_, ?_⟩)
    · show Ending.returned (.tuple #[.int .i64 _, .int .i64 0]) = _
      rw [sign_ext (j : Int) _ hwk (by simpa using hbe)]
      rfl
    · rw [ad]
      exact hput
    · rw [ad]
      exact Mod.trans (h1.trans (New.drew _)).mod hmod fun _ _ h => h
end Go.Proofs.Yteanhakkceancaa.Word
