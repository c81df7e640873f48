/- The package code, walked: the forms of instructions. -/
import Derived.Test.YtcpeekeiflglpaaSays
import Derived.Test.YtcpeekeiflglpaaWPut
import Derived.Test.YtcpeekeiflglpaaCMath
namespace Go.Proofs.Ytcpeekeiflglpaa.Code
open Go Go.Proofs.Ytcpeekeiflglpaa Go.Proofs.Ytcpeekeiflglpaa.Eng Go.Proofs Go.Proofs.Ytcpeekeiflglpaa.Word
set_option maxRecDepth 10000

theorem inL_step {zs : List Int} {op : Int} {i : Nat} (h : i + 1 < zs.length) : inL op (zs.drop i) = ((decide (zs[i] ≤ op) && decide (op ≤ zs[i + 1])) || inL op (zs.drop (i + 2))) := by
  rw [List.drop_eq_getElem_cons (by omega), List.drop_eq_getElem_cons h]
  rfl
theorem in_ok (C : Option Addr) (q qc : Nat) (zs : List Int) (op : Int) (p : Addr) (w : World) (hq : q = zs.length) (h2 : zs.length % 2 = 0) (hm : q ≤ 1000) (hz : Row w C (ivs zs)) (hp : w.cell? p = some (.int .i64 op)) :
    Calls Try.prog 78 #[.slice C q qc, .pointer (some p)] w fun e w' => e = .returned (.bool (inL op zs)) ∧ New w w' := by
  refine enter ok Try.func78 rfl rfl rfl ?_
  refine den_loop (σ := Nat) (fun i => [(0, .slice C q qc), (1, .pointer (some p)), (3, .bool false), (4, .int .i64 (i : Int))]) (fun m i wl => i ≤ q ∧ i % 2 = 0 ∧ m = q - i ∧ inL op (zs.drop i) = inL op zs ∧ New w wl) q 0
    ⟨rfl, rfl, rfl, rfl, trivial⟩ ⟨Nat.zero_le _, rfl, rfl, rfl, New.refl _⟩ ?_
  rintro m i wl fr0 ⟨hi, h20, rfl, hin, kl⟩
  refine if_p (fun hlt => ?_) (fun hge => ?_)
  · replace hlt : (i : Int) < q := hlt
    have hi1 : i + 1 < zs.length := by omega
    obtain ⟨a, rfl, _⟩ := hz i (.int .i64 (zs[i]'(by omega))) (by simp [ivs, show i < zs.length by omega])
    have hc : ∀ j (hj : j < zs.length) w'', New wl w'' → w''.cell? (a.add j) = some (.int .i64 zs[j]) := fun j hj w'' hw => by
      obtain ⟨a', ha, hca⟩ := (hz.new (kl.trans hw)) j (.int .i64 zs[j]) (by simp [ivs, hj])
      cases ha
      exact hca
    refine draw_ (w := wl) ok (.q 0 (.q 1 (.q 2 (.q 3 (.q 4 (.q 5 (.q 6 (.q 7 (.q 8 (.q 9 (.q 10 (.q 11 (.q 12 (.q 13 (.q 14 .done))))))))))))))) [14] (New wl) (by kernel_rfl) (by kernel_rfl) (by kernel_rfl) (by kernel_rfl) (by kernel_rfl) (New.drew _) ?_
    refine Exists.intro op (And.intro (fun w'' hw => (kl.trans hw).cell hp) ?_)
    refine And.intro (by omega) (And.intro hlt ?_)
    have inc : IntKind.i64.wrap ((i : Int) + 1) = ((i + 1 : Nat) : Int) := by
      rw [wrap_i64 (by omega) (by omega)]
      rfl
    have next : (i + 2 ≤ q ∧ (i + 2) % 2 = 0 ∧ q - (i + 2) = q - (i + 2)) := ⟨by omega, by omega, rfl⟩
    have inc2 : Value.int .i64 (IntKind.i64.wrap ((i : Int) + 2)) = .int .i64 ((i + 2 : Nat) : Int) := by
      rw [wrap_i64 (by omega) (by omega)]
      rfl
    have hst := inL_step (op := op) hi1
    rw [hin] at hst
    refine Exists.intro (zs[i]'(by omega)) (And.intro (fun w'' hw => by rw [Int.toNat_natCast, Nat.mul_one]; exact hc i (by omega) w'' hw) ?_)
    refine if_p (fun hle => ?_) (fun hgt => ?_)
    · rw [decide_eq_true (show zs[i] ≤ op from hle), Bool.true_and] at hst
      refine Exists.intro op (And.intro (fun w'' hw => (kl.trans hw).cell hp) ?_)
      refine And.intro (by rw [inc]; omega) (And.intro (by rw [inc]; omega) ?_)
      refine Exists.intro zs[i + 1] (And.intro (fun w'' hw => by rw [inc, Int.toNat_natCast, Nat.mul_one]; exact hc (i + 1) hi1 w'' hw) ?_)
      refine if_p (fun hle2 => ?_) (fun hgt2 => ?_)
      · rw [decide_eq_true (show op ≤ zs[i + 1] from hle2), Bool.true_or] at hst
        rw [hst]
        exact ⟨rfl, kl.trans (New.drew _)⟩
      · rw [decide_eq_false (show ¬ op ≤ zs[i + 1] from hgt2), Bool.false_or] at hst
        exact ⟨q - (i + 2), i + 2, by omega, ⟨rfl, rfl, rfl, inc2, trivial⟩, next.1, next.2.1, rfl, hst.symm, kl.trans (New.drew _)⟩
    · rw [decide_eq_false (show ¬ zs[i] ≤ op from hgt), Bool.false_and, Bool.false_or] at hst
      exact ⟨q - (i + 2), i + 2, by omega, ⟨rfl, rfl, rfl, inc2, trivial⟩, next.1, next.2.1, rfl, hst.symm, kl.trans (New.drew _)⟩
  · replace hge : ¬ (i : Int) < q := hge
    have : i = zs.length := by omega
    subst this
    rw [← hin, List.drop_length]
    exact ⟨rfl, kl⟩
theorem formOf_ok (op : Int) (w : World) : Calls Try.prog 55 #[.int .i64 op] w fun e w' => e = .returned (.int .i64 (form op : Int)) ∧ New w w' := by
  refine enter ok Try.func55 rfl rfl rfl ?_
  have n0 := New.alloc w (.cells #[.int .i64 op] 3)
  have hp0 : (w.alloc (.cells #[.int .i64 op] 3)).cell? ⟨w.heap.size, 0, none⟩ = some (.int .i64 op) := by
    rw [cell_of_row _ _ 0 _ _ _ (heap_alloc_new w _)]
    rfl
  have n1 := New.alloc (w.alloc (.cells #[.int .i64 op] 3)) (.cells (ivs L1).toArray 3)
  refine Exists.intro (ivs L1) (And.intro (by kernel_rfl) ?_)
  refine call_ (in_ok (some ⟨(w.alloc (.cells #[.int .i64 op] 3)).heap.size, 0, none⟩) 32 32 L1 op ⟨w.heap.size, 0, none⟩ ((w.alloc (.cells #[.int .i64 op] 3)).alloc (.cells (ivs L1).toArray 3)) rfl rfl (by omega) (row_alloc _ (ivs L1) _ _) (n1.cell hp0)) ?_
  rintro e w1 ⟨rfl, i1⟩
  refine ⟨_, rfl, ?_⟩
  have k1 := (n0.trans n1).trans i1
  have hp1 := (n1.trans i1).cell hp0
  refine if_ (fun h1 => ?_) (fun h1 => ?_)
  · exact ⟨by rw [show form op = 1 by unfold form; rw [if_pos h1]]; rfl, k1⟩
  have n2 := New.alloc w1 (.cells (ivs L2).toArray 3)
  refine Exists.intro (ivs L2) (And.intro (by kernel_rfl) ?_)
  refine call_ (in_ok (some ⟨w1.heap.size, 0, none⟩) 14 14 L2 op ⟨w.heap.size, 0, none⟩ (w1.alloc (.cells (ivs L2).toArray 3)) rfl rfl (by omega) (row_alloc _ (ivs L2) _ _) (n2.cell hp1)) ?_
  rintro e w2 ⟨rfl, i2⟩
  refine ⟨_, rfl, ?_⟩
  have k2 := (k1.trans n2).trans i2
  have hp2 := (n2.trans i2).cell hp1
  refine if_ (fun h2 => ?_) (fun h2 => ?_)
  · exact ⟨by rw [show form op = 1 by unfold form; rw [if_neg (show ¬ inL op L1 = true by rw [h1]; decide), if_pos h2]]; rfl, k2⟩
  refine Exists.intro op (And.intro hp2 ?_)
  refine if_p (fun h3 => ?_) (fun h3 => ?_)
  · exact ⟨by rw [show form op = 2 by unfold form; rw [if_neg (show ¬ inL op L1 = true by rw [h1]; decide), if_neg (show ¬ inL op L2 = true by rw [h2]; decide), if_pos (show op = 16 from h3)]]; rfl, k2⟩
  refine Exists.intro op (And.intro hp2 ?_)
  refine if_p (fun h4 => ?_) (fun h4 => ?_)
  · exact ⟨by rw [show form op = 3 by unfold form; rw [if_neg (show ¬ inL op L1 = true by rw [h1]; decide), if_neg (show ¬ inL op L2 = true by rw [h2]; decide), if_neg (show ¬ op = 16 from h3), if_pos (show op = 17 from h4)]]; rfl, k2⟩
  have n5 := New.alloc w2 (.cells (ivs L4).toArray 3)
  refine Exists.intro (ivs L4) (And.intro (by kernel_rfl) ?_)
  refine call_ (in_ok (some ⟨w2.heap.size, 0, none⟩) 12 12 L4 op ⟨w.heap.size, 0, none⟩ (w2.alloc (.cells (ivs L4).toArray 3)) rfl rfl (by omega) (row_alloc _ (ivs L4) _ _) (n5.cell hp2)) ?_
  rintro e w5 ⟨rfl, i5⟩
  refine ⟨_, rfl, ?_⟩
  have k5 := (k2.trans n5).trans i5
  have hp5 := (n5.trans i5).cell hp2
  refine if_ (fun h5 => ?_) (fun h5 => ?_)
  · exact ⟨by rw [show form op = 4 by unfold form; rw [if_neg (show ¬ inL op L1 = true by rw [h1]; decide), if_neg (show ¬ inL op L2 = true by rw [h2]; decide), if_neg (show ¬ op = 16 from h3), if_neg (show ¬ op = 17 from h4), if_pos h5]]; rfl, k5⟩
  have n6 := New.alloc w5 (.cells (ivs L5).toArray 3)
  refine Exists.intro (ivs L5) (And.intro (by kernel_rfl) ?_)
  refine call_ (in_ok (some ⟨w5.heap.size, 0, none⟩) 10 10 L5 op ⟨w.heap.size, 0, none⟩ (w5.alloc (.cells (ivs L5).toArray 3)) rfl rfl (by omega) (row_alloc _ (ivs L5) _ _) (n6.cell hp5)) ?_
  rintro e w6 ⟨rfl, i6⟩
  refine ⟨_, rfl, ?_⟩
  have k6 := (k5.trans n6).trans i6
  have hp6 := (n6.trans i6).cell hp5
  refine if_ (fun h6 => ?_) (fun h6 => ?_)
  · exact ⟨by rw [show form op = 5 by unfold form; rw [if_neg (show ¬ inL op L1 = true by rw [h1]; decide), if_neg (show ¬ inL op L2 = true by rw [h2]; decide), if_neg (show ¬ op = 16 from h3), if_neg (show ¬ op = 17 from h4), if_neg (show ¬ inL op L4 = true by rw [h5]; decide), if_pos h6]]; rfl, k6⟩
  refine Exists.intro op (And.intro hp6 ?_)
  refine if_p (fun h7 => ?_) (fun h7 => ?_)
  · exact ⟨by rw [show form op = 6 by unfold form; rw [if_neg (show ¬ inL op L1 = true by rw [h1]; decide), if_neg (show ¬ inL op L2 = true by rw [h2]; decide), if_neg (show ¬ op = 16 from h3), if_neg (show ¬ op = 17 from h4), if_neg (show ¬ inL op L4 = true by rw [h5]; decide), if_neg (show ¬ inL op L5 = true by rw [h6]; decide), if_pos (show op = 132 from h7)]]; rfl, k6⟩
  have n8 := New.alloc w6 (.cells (ivs L7).toArray 3)
  refine call_ (in_ok (some ⟨w6.heap.size, 0, none⟩) 4 4 L7 op ⟨w.heap.size, 0, none⟩ (w6.alloc (.cells (ivs L7).toArray 3)) rfl rfl (by omega) (row_alloc _ (ivs L7) _ _) (n8.cell hp6)) ?_
  rintro e w8 ⟨rfl, i8⟩
  refine ⟨_, rfl, ?_⟩
  have k8 := (k6.trans n8).trans i8
  have hp8 := (n8.trans i8).cell hp6
  refine if_ (fun h8 => ?_) (fun h8 => ?_)
  · exact ⟨by rw [show form op = 7 by unfold form; rw [if_neg (show ¬ inL op L1 = true by rw [h1]; decide), if_neg (show ¬ inL op L2 = true by rw [h2]; decide), if_neg (show ¬ op = 16 from h3), if_neg (show ¬ op = 17 from h4), if_neg (show ¬ inL op L4 = true by rw [h5]; decide), if_neg (show ¬ inL op L5 = true by rw [h6]; decide), if_neg (show ¬ op = 132 from h7), if_pos h8]]; rfl, k8⟩
  refine Exists.intro op (And.intro hp8 ?_)
  refine if_p (fun h9 => ?_) (fun h9 => ?_)
  · exact ⟨by rw [show form op = 8 by unfold form; rw [if_neg (show ¬ inL op L1 = true by rw [h1]; decide), if_neg (show ¬ inL op L2 = true by rw [h2]; decide), if_neg (show ¬ op = 16 from h3), if_neg (show ¬ op = 17 from h4), if_neg (show ¬ inL op L4 = true by rw [h5]; decide), if_neg (show ¬ inL op L5 = true by rw [h6]; decide), if_neg (show ¬ op = 132 from h7), if_neg (show ¬ inL op L7 = true by rw [h8]; decide), if_pos (show op = 170 from h9)]]; rfl, k8⟩
  refine Exists.intro op (And.intro hp8 ?_)
  refine if_p (fun h10 => ?_) (fun h10 => ?_)
  · exact ⟨by rw [show form op = 9 by unfold form; rw [if_neg (show ¬ inL op L1 = true by rw [h1]; decide), if_neg (show ¬ inL op L2 = true by rw [h2]; decide), if_neg (show ¬ op = 16 from h3), if_neg (show ¬ op = 17 from h4), if_neg (show ¬ inL op L4 = true by rw [h5]; decide), if_neg (show ¬ inL op L5 = true by rw [h6]; decide), if_neg (show ¬ op = 132 from h7), if_neg (show ¬ inL op L7 = true by rw [h8]; decide), if_neg (show ¬ op = 170 from h9), if_pos (show op = 171 from h10)]]; rfl, k8⟩
  exact ⟨by rw [show form op = 0 by unfold form; rw [if_neg (show ¬ inL op L1 = true by rw [h1]; decide), if_neg (show ¬ inL op L2 = true by rw [h2]; decide), if_neg (show ¬ op = 16 from h3), if_neg (show ¬ op = 17 from h4), if_neg (show ¬ inL op L4 = true by rw [h5]; decide), if_neg (show ¬ inL op L5 = true by rw [h6]; decide), if_neg (show ¬ op = 132 from h7), if_neg (show ¬ inL op L7 = true by rw [h8]; decide), if_neg (show ¬ op = 170 from h9), if_neg (show ¬ op = 171 from h10)]]; rfl, k8⟩
end Go.Proofs.Ytcpeekeiflglpaa.Code
