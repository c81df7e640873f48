/- Helpers of the statements, walked: Among, Bytes, SameBytes. -/
import Derived.Test.YteanhakkceancaaTab
import Derived.Test.YteanhakkceancaaMem
namespace Go.Proofs.Yteanhakkceancaa.Base
open Go Go.Proofs.Yteanhakkceancaa Go.Proofs.Yteanhakkceancaa.Eng Go.Proofs
set_option maxRecDepth 10000

def among (x n : Int) : Int := if n < 1 then 0 else (x % 18446744073709551616) % n
theorem among_lt {x n : Int} (h : 1 ≤ n) : 0 ≤ among x n ∧ among x n < n := by
  unfold among
  rw [if_neg (by omega)]
  exact ⟨Int.emod_nonneg _ (by omega), Int.emod_lt_of_pos _ (by omega)⟩
theorem wrap_u64_ (n : Int) : IntKind.u64.wrap n = n % 18446744073709551616 := by simp [IntKind.wrap, IntKind.bits, IntKind.signed]

theorem Among_ok (x n : Int) (w : World) (hn : n ≤ 9223372036854775807) :
    Calls Try.prog 16 #[.int .i64 x, .int .i64 n] w fun e w' => e = .returned (.int .i64 (among x n)) ∧ w' = w := by
  refine enter ok Try.func16 rfl rfl rfl ?_
  refine if_p (fun h => ?_) (fun h => ?_)
  · refine ⟨?_, rfl⟩
    unfold among
    rw [if_pos h]
    rfl
  · have e : IntKind.u64.wrap n = n := by rw [wrap_u64_]; omega
    refine And.intro (by rw [e]; omega) ⟨?_, rfl⟩
    show Ending.returned (.int .i64 (IntKind.i64.wrap _)) = _
    have h0 : 0 ≤ x % 18446744073709551616 := Int.emod_nonneg _ (by omega)
    have h1 := (among_lt (x := x) (n := n) (by omega))
    have h2 : (IntKind.u64.wrap x).tmod (IntKind.u64.wrap n) = among x n := by
      rw [e, wrap_u64_, Int.tmod_eq_emod_of_nonneg h0]
      unfold among
      rw [if_neg h]
    rw [h2, wrap_i64 (by omega) (by omega)]

theorem bvs_one (bs : List UInt8) : ∀ u ∈ bvs bs, u.oneCell' = true := by
  intro u hu
  obtain ⟨b, _, rfl⟩ := List.mem_map.1 hu
  rfl

theorem Bytes_ok (A : Option Addr) (n c : Nat) (bs : List UInt8) (w : World) (hn : n = bs.length) (hr : Row w A (bvs bs)) (hm : n ≤ 140737488355328) :
    Calls Try.prog 12 #[.slice A n c] w fun e w' => ∃ v, e = .returned v ∧ w'.ownsRow w.heap.size 5 1 v n (bvs bs) ∧ New w w' := by
  refine enter ok Try.func12 rfl rfl rfl ?_
  refine append_ ok rfl rfl rfl rfl (own_lit w [] 5 1 0 w.heap.size (Nat.le_refl _) rfl (by omega)) rfl rfl (hr.new (New.alloc _ _)) (by rw [bvs_length, hn]; exact (Nat.mul_one _).symm) (bvs_one bs) (by decide) rfl (by show (0 + n) * 1 ≤ _; omega) (by omega) (by simp) ?_
  intro A' c' w' hown hmod
  refine ⟨_, rfl, ?_, ?_⟩
  · rw [Nat.zero_add] at hown ⊢
    exact hown
  · refine Mod.trans (New.alloc w _) hmod ?_
    intro i hi h
    simp only [Value.ownBlock, Option.some.injEq] at h
    omega

theorem same_iff (a b : List UInt8) : decide ((⟨a.toArray⟩ : ByteArray) = ⟨b.toArray⟩) = decide (a = b) := by
  by_cases h : a = b
  · subst h; simp
  · have : ¬ (⟨a.toArray⟩ : ByteArray) = ⟨b.toArray⟩ := fun e => h (by simpa using congrArg (fun s : ByteArray => s.data.toList) e)
    rw [decide_eq_false h, decide_eq_false this]
theorem SameBytes_ok (A B : Option Addr) (n c m d : Nat) (xs bs : List UInt8) (w : World) (hn : n = xs.length) (hm : m = bs.length) (ha : Row w A (bvs xs)) (hb : Row w B (bvs bs)) :
    Calls Try.prog 10 #[.slice A n c, .slice B m d] w fun e w' => e = .returned (.bool (decide (xs = bs))) ∧ w' = w := by
  refine enter ok Try.func10 rfl rfl rfl ?_
  refine Exists.intro xs (And.intro hn.symm (And.intro ha (Exists.intro bs (And.intro hm.symm (And.intro hb ⟨?_, rfl⟩)))))
  show Ending.returned (.bool (decide _)) = _
  rw [same_iff]
end Go.Proofs.Yteanhakkceancaa.Base
