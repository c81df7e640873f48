/- The package code, walked: instructions compared. -/
import Derived.Test.YtcpeekeiflglpaaCWMath
import Derived.Test.YtcpeekeiflglpaaCWalk7
import Derived.Test.YtcpeekeiflglpaaEq
namespace Go.Proofs.Ytcpeekeiflglpaa.Code
open Go Go.Proofs.Ytcpeekeiflglpaa Go.Proofs.Ytcpeekeiflglpaa.Eng Go.Proofs Go.Proofs.Ytcpeekeiflglpaa.Word
open Go.Proofs.Ytcpeekeiflglpaa.Pool (both own_low)
set_option maxRecDepth 10000

theorem csEq (x y : Cs) : decide (x = y) = (decide (x.key = y.key) && (decide (x.to = y.to) && true)) := by
  by_cases h : x = y
  · subst h; simp
  · rw [decide_eq_false h]
    symm
    have h' : ¬ (x.key = y.key ∧ x.to = y.to) := fun e => h ((Cs.iff x y).1 e)
    simpa using h'
theorem take_eq_step {α : Type} {l1 l2 : List α} {i : Nat} (h1 : i < l1.length) (h2 : i < l2.length) (h : l1.take i = l2.take i) (e : l1[i] = l2[i]) : l1.take (i + 1) = l2.take (i + 1) := by
  rw [List.take_succ_eq_append_getElem h1, List.take_succ_eq_append_getElem h2, h, e]
theorem sliceEq_ok (A1 A2 : Option Addr) (n1 n2 c1 c2 : Nat) (l1 l2 : List Cs) (w : World) (h1 : n1 = l1.length) (h2 : n2 = l2.length) (r1 : Row w A1 (csF l1)) (r2 : Row w A2 (csF l2)) (hl : l1.length ≤ 8796093022208) :
    Calls Try.prog 77 #[.slice A1 n1 c1, .slice A2 n2 c2] w fun e w' => e = .returned (.bool (decide (l1 = l2))) ∧ New w w' := by
  subst h1 h2
  refine enter ok Try.func77 rfl rfl rfl ?_
  refine if_n (fun hne => ?_) (fun heq => ?_)
  · replace hne : ¬ (l1.length : Int) = (l2.length : Int) := hne
    rw [decide_eq_false (fun e => hne (by rw [e]))]
    exact ⟨rfl, New.refl _⟩
  replace heq : (l1.length : Int) = (l2.length : Int) := heq
  refine den_loop (σ := Nat) (fun i => [(0, .slice A1 l1.length c1), (1, .slice A2 l2.length c2), (12, .int .i64 (l1.length : Int)), (13, .int .i64 (i : Int))])
    (fun m i wl => m + i = l1.length ∧ l1.take i = l2.take i ∧ New w wl) l1.length 0 ⟨rfl, rfl, rfl, rfl, trivial⟩ ⟨rfl, rfl, New.refl _⟩ ?_
  rintro m i wl frl ⟨hfuel, htake, kl⟩
  refine if_p (fun hlt => ?_) (fun hge => ?_)
  · replace hlt : (i : Int) < (l1.length : Int) := hlt
    have hi1 : i < l1.length := by omega
    have hi2 : i < l2.length := by omega
    obtain ⟨m, rfl⟩ : ∃ m', m = m' + 1 := ⟨m - 1, by omega⟩
    have inc : Value.int .i64 (IntKind.i64.wrap ((i : Int) + 1)) = .int .i64 ((i + 1 : Nat) : Int) := by
      rw [wrap_i64 (by omega) (by omega)]
      rfl
    obtain ⟨a1, rfl, hc1⟩ := csF_row (r1.new kl) hi1
    obtain ⟨a2, rfl, hc2⟩ := csF_row (r2.new kl) hi2
    refine draw_ (w := wl) ok (.q 0 (.q 1 (.q 2 (.q 3 (.q 4 (.q 5 (.q 6 (.q 7 (.q 8 .done))))))))) [8] (New wl) (by kernel_rfl) (by kernel_rfl) (by kernel_rfl) (by kernel_rfl) (by kernel_rfl) (New.drew _) ?_
    refine And.intro (by omega) (And.intro hlt ?_)
    refine loadNC_row (vs := csC l1[i]) (fun k u hu w'' hw => by rw [Int.toNat_natCast]; exact hw.cell (hc1 k u hu)) rfl ?_
    refine And.intro (by omega) (And.intro (by omega) ?_)
    refine loadNC_row (vs := csC l2[i]) (fun k u hu w'' hw => by rw [Int.toNat_natCast]; exact hw.cell (hc2 k u hu)) rfl ?_
    refine Exists.intro (.bool (!decide (l1[i] = l2[i]))) (And.intro (fun w'' _ => agg_cmp ok rfl rfl rfl (by kernel_rfl) (by kernel_rfl) rfl rfl rfl (!decide (l1[i] = l2[i])) (.inr ⟨rfl, by exact congrArg (!·) (csEq l1[i] l2[i])⟩) w'') ?_)
    have kd := kl.trans (New.drew wl)
    refine if_n (fun hne => ?_) (fun he => ?_)
    · replace hne : ¬ l1[i] = l2[i] := hne
      rw [decide_eq_false (fun e => hne (by simp [e]))]
      exact ⟨rfl, kd⟩
    · exact ⟨m, i + 1, by omega, ⟨rfl, rfl, rfl, inc, trivial⟩, by omega, take_eq_step hi1 hi2 htake he, kd⟩
  · replace hge : ¬ (i : Int) < (l1.length : Int) := hge
    have e : l1 = l2 := by
      rw [List.take_of_length_le (by omega), List.take_of_length_le (by omega)] at htake
      exact htake
    rw [decide_eq_true e]
    exact ⟨rfl, kl⟩
theorem alike_ok (x y : Ins) (u v : Value) (w : World) (hu : CsV w u x.cs) (hv : CsV w v y.cs) :
    Calls Try.prog 54 #[.agg (insC x u).toArray, .agg (insC y v).toArray] w fun e w' => e = .returned (.bool (decide (x = y))) ∧ New w w' := by
  refine enter ok Try.func54 rfl rfl rfl ?_
  refine seq_cut (σ := Nat × Nat) (fun t => [(2, .pointer (some ⟨t.1, 0, none⟩)), (3, .pointer (some ⟨t.2, 0, none⟩))]) (fun t w' => New w w' ∧ w'.heap[t.1]? = some (.cells (insC x u).toArray 62 (0, 0)) ∧ w'.heap[t.2]? = some (.cells (insC y v).toArray 62 (0, 0))) ?_ ?_
  rotate_left
  · intro K hK
    have n1 := New.alloc w (.cells (insC x u).toArray 62)
    have n2 := New.alloc (w.alloc (.cells (insC x u).toArray 62)) (.cells (insC y v).toArray 62)
    exact hK (w.heap.size, (w.alloc (.cells (insC x u).toArray 62)).heap.size) _ _ ⟨rfl, rfl, trivial⟩ ⟨n1.trans n2, n2.blk (heap_alloc_new w _), heap_alloc_new _ _⟩
  rintro ⟨I, J⟩ w1 fr1 ⟨n1, hI, hJ⟩
  dsimp only at hI hJ
  have no : ∀ f : Ins → Int, ¬ f x = f y → decide (x = y) = false := fun f h => decide_eq_false (fun e => h (by rw [e]))
  refine Exists.intro x.p (And.intro (cellB hI rfl) (Exists.intro y.p (And.intro (cellB hJ rfl) ?_)))
  refine if_p (fun hp => ?_) (fun hp => ?_)
  · replace hp : x.p = y.p := hp
    refine Exists.intro x.op (And.intro (cellB hI rfl) (Exists.intro y.op (And.intro (cellB hJ rfl) ?_)))
    refine if_p (fun ho => ?_) (fun ho => ?_)
    · replace ho : x.op = y.op := ho
      refine Exists.intro x.a (And.intro (cellB hI rfl) (Exists.intro y.a (And.intro (cellB hJ rfl) ?_)))
      refine if_p (fun ha => ?_) (fun ha => ?_)
      · replace ha : x.a = y.a := ha
        refine Exists.intro x.b (And.intro (cellB hI rfl) (Exists.intro y.b (And.intro (cellB hJ rfl) ?_)))
        refine if_p (fun hb => ?_) (fun hb => ?_)
        · replace hb : x.b = y.b := hb
          obtain ⟨⟨A1, c1, e1, r1⟩, hl1⟩ := hu.new n1
          obtain ⟨⟨A2, c2, e2, r2⟩, hl2⟩ := hv.new n1
          refine Exists.intro A1 (Exists.intro x.cs.length (Exists.intro c1 (And.intro (cellB hI (by rw [e1]; rfl)) ?_)))
          refine Exists.intro A2 (Exists.intro y.cs.length (Exists.intro c2 (And.intro (cellB hJ (by rw [e2]; rfl)) ?_)))
          refine call_ (sliceEq_ok A1 A2 _ _ c1 c2 x.cs y.cs w1 rfl rfl r1 r2 hl1) ?_
          rintro e w2 ⟨rfl, n2⟩
          refine ⟨_, rfl, ?_⟩
          refine ⟨?_, n1.trans n2⟩
          have e : decide (x = y) = decide (x.cs = y.cs) := decide_eq_decide.2 ⟨fun h => by rw [h], fun h => (Ins.iff x y).1 ⟨hp, ho, ha, hb, h⟩⟩
          rw [e]
          rfl
        · replace hb : ¬ x.b = y.b := hb
          rw [no (·.b) hb]
          exact ⟨rfl, n1⟩
      · replace ha : ¬ x.a = y.a := ha
        rw [no (·.a) ha]
        exact ⟨rfl, n1⟩
    · replace ho : ¬ x.op = y.op := ho
      rw [no (·.op) ho]
      exact ⟨rfl, n1⟩
  · replace hp : ¬ x.p = y.p := hp
    rw [no (·.p) hp]
    exact ⟨rfl, n1⟩
theorem eqFunc_ok (A1 A2 : Option Addr) (n1 n2 c1 c2 : Nat) (l1 l2 : List It) (w : World) (h1 : n1 = l1.length) (h2 : n2 = l2.length) (r1 : Ct w A1 l1) (r2 : Ct w A2 l2) (hl : l1.length ≤ 8796093022208) :
    Calls Try.prog 53 #[.slice A1 n1 c1, .slice A2 n2 c2, .func (.func 54) #[] #[]] w fun e w' => e = .returned (.bool (decide (l1.map (·.1) = l2.map (·.1)))) ∧ New w w' := by
  subst h1 h2
  refine enter ok Try.func53 rfl rfl rfl ?_
  refine if_n (fun hne => ?_) (fun heq => ?_)
  · replace hne : ¬ (l1.length : Int) = (l2.length : Int) := hne
    rw [decide_eq_false (fun e => hne (by have := congrArg List.length e; simp at this; omega))]
    exact ⟨rfl, New.refl _⟩
  replace heq : (l1.length : Int) = (l2.length : Int) := heq
  refine den_loop (σ := Nat) (fun i => [(0, .slice A1 l1.length c1), (1, .slice A2 l2.length c2), (2, .func (.func 54) #[] #[]), (15, .slice A1 l1.length c1), (16, .int .i64 (l1.length : Int)), (17, .int .i64 (i : Int))])
    (fun m i wl => m + i = l1.length ∧ (l1.map (·.1)).take i = (l2.map (·.1)).take i ∧ New w wl) l1.length 0 ⟨rfl, rfl, rfl, rfl, rfl, rfl, trivial⟩ ⟨rfl, rfl, New.refl _⟩ ?_
  rintro m i wl frl ⟨hfuel, htake, kl⟩
  refine if_p (fun hlt => ?_) (fun hge => ?_)
  · replace hlt : (i : Int) < (l1.length : Int) := hlt
    have hi1 : i < l1.length := by omega
    have hi2 : i < l2.length := by omega
    obtain ⟨m, rfl⟩ : ∃ m', m = m' + 1 := ⟨m - 1, by omega⟩
    have inc : Value.int .i64 (IntKind.i64.wrap ((i : Int) + 1)) = .int .i64 ((i + 1 : Nat) : Int) := by
      rw [wrap_i64 (by omega) (by omega)]
      rfl
    have c1' := r1.new kl
    have c2' := r2.new kl
    have v1 := c1'.cs _ (List.getElem_mem hi1)
    have v2 := c2'.cs _ (List.getElem_mem hi2)
    obtain ⟨a1, e1, hc1⟩ := itF_row c1'.row hi1
    obtain ⟨a2, e2, hc2⟩ := itF_row c2'.row hi2
    refine And.intro (by omega) (And.intro hlt ?_)
    refine some_at e1 ?_
    refine loadN_row (vs := insC l1[i].1 l1[i].2) (fun k u hu => by rw [Int.toNat_natCast]; exact hc1 k u hu) rfl ?_
    refine And.intro rfl ?_
    refine storeNew (vs := insC l1[i].1 l1[i].2) (arr := (insC ⟨0, 0, 0, 0, []⟩ nilC).toArray) rfl (insC_one _ v1.one) ?_
    intro w5 hb5 n5 s5
    refine And.intro (by omega) (And.intro (by omega) ?_)
    refine some_at e2 ?_
    refine loadN_row (vs := insC l2[i].1 l2[i].2) (fun k u hu => by rw [Int.toNat_natCast]; exact n5.cell (hc2 k u hu)) rfl ?_
    refine And.intro rfl ?_
    refine storeNew (vs := insC l2[i].1 l2[i].2) (arr := (insC ⟨0, 0, 0, 0, []⟩ nilC).toArray) rfl (insC_one _ v2.one) ?_
    intro w6 hb6 n6 s6
    refine loadN_row (vs := insC l1[i].1 l1[i].2) (rowB (n6.blk hb5)) rfl ?_
    refine loadN_row (vs := insC l2[i].1 l2[i].2) (rowB hb6) rfl ?_
    have n56 := n5.trans n6
    refine call_ (alike_ok l1[i].1 l2[i].1 l1[i].2 l2[i].2 w6 (v1.new n56) (v2.new n56)) ?_
    rintro e w7 ⟨rfl, n7⟩
    refine ⟨_, rfl, ?_⟩
    have k7 := (kl.trans n56).trans n7
    refine if_n (fun hne => ?_) (fun he => ?_)
    · replace hne : ¬ l1[i].1 = l2[i].1 := hne
      rw [decide_eq_false (fun e => hne (by
        have := congrArg (fun l => l[i]?) e
        simpa [hi1, hi2] using this))]
      exact ⟨rfl, k7⟩
    · exact ⟨m, i + 1, by omega, ⟨rfl, rfl, rfl, rfl, rfl, inc, trivial⟩, by omega, take_eq_step (by simpa using hi1) (by simpa using hi2) htake (by simpa using he), k7⟩
  · replace hge : ¬ (i : Int) < (l1.length : Int) := hge
    have e : l1.map (·.1) = l2.map (·.1) := by
      rw [List.take_of_length_le (by simp; omega), List.take_of_length_le (by simp; omega)] at htake
      exact htake
    rw [decide_eq_true e]
    exact ⟨rfl, kl⟩
end Go.Proofs.Ytcpeekeiflglpaa.Code
