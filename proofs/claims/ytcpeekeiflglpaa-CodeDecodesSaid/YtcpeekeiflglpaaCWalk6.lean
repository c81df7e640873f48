/- The package code, walked: whether one begins there; slices.ContainsFunc. -/
import Derived.Test.YtcpeekeiflglpaaCWalk5
namespace Go.Proofs.Ytcpeekeiflglpaa.Code
open Go Go.Proofs.Ytcpeekeiflglpaa Go.Proofs.Ytcpeekeiflglpaa.Eng Go.Proofs Go.Proofs.Ytcpeekeiflglpaa.Word
open Go.Proofs.Ytcpeekeiflglpaa.Pool (numR numR_err rd_modN rd_low RS both own_low)
set_option maxRecDepth 10000

abbrev intK : Value → Prop := MapKept.IsKey (.int .i64)
theorem intLaw : KeyL Try.prog 3 intK := keyL_plain (ok.desc 3 _ rfl)
theorem uMapI : Try.prog.underlying 116 = some (.map 3 4) := by kernel_rfl
theorem zBool (w : World) : (zeroValue 4).run Try.prog w = .ok (.bool false) w := by
  obtain ⟨j, z, h1, _, _, h2, h3⟩ := ok.info 4 _ rfl
  have hz : z = .bool false := by
    have e1 : (Try.prog.info? 4).bind (·.zero) = some (.bool false) := by kernel_rfl
    rw [h1] at e1
    simp only [Option.bind_some] at e1
    rw [h2] at e1
    exact Option.some.inj e1
  subst hz
  simp [zeroValue, typeInfo, h1, h2]
/-- Those that hold. -/
def mk (B : Int → Bool) (v : Value) : Option Value := match v with
  | .int .i64 n => bif B n then some (.bool true) else none
  | _ => none
theorem begins_ok (at_ : Int) (M r : Nat) (B : Int → Bool) (w : World) (hM : w.cell? ⟨M, 0, none⟩ = some (.map (some r))) (hr : MapF intK w r (mk B)) :
    Calls Try.prog 70 #[.int .i64 at_, .pointer (some ⟨M, 0, none⟩)] w fun e w' => e = .returned (.bool (!B at_)) ∧ w' = w := by
  refine enter ok Try.func70 rfl rfl rfl ?_
  refine Exists.intro (some r) (And.intro hM ?_)
  refine op_ rfl (op_move rfl (op_ rfl (op_lookup rfl (raw_value (exec_lookup (key := .int .i64 at_) rfl rfl rfl (run_lookup hr intLaw uMapI (zBool w) rfl)) ?_))))
  have e : (mk B (.int .i64 at_)).getD (.bool false) = .bool (B at_) := by
    show (bif B at_ then some (Value.bool true) else none).getD (.bool false) = _
    cases B at_ <;> rfl
  rw [e]
  exact ⟨rfl, rfl⟩
theorem indexF_ok (A : Option Addr) (n c : Nat) (zs : List Int) (M r : Nat) (B : Int → Bool) (w : World) (hn : n = zs.length) (hz : Row w A (ivs zs)) (hl : zs.length ≤ 8796093022210) (hM : w.cell? ⟨M, 0, none⟩ = some (.map (some r))) (hr : MapF intK w r (mk B)) :
    Calls Try.prog 89 #[.slice A n c, .func (.func 70) #[] #[.pointer (some ⟨M, 0, none⟩)]] w fun e w' => ∃ k : Int, e = .returned (.int .i64 k) ∧ decide (0 ≤ k) = (zs.any fun z => !B z) ∧ w' = w := by
  subst hn
  refine enter ok Try.func89 rfl rfl rfl ?_
  refine den_loop (σ := Nat) (fun i => [(0, .slice A zs.length c), (1, .func (.func 70) #[] #[.pointer (some ⟨M, 0, none⟩)]), (4, .int .i64 0), (7, .int .i64 (zs.length : Int)), (8, .int .i64 (i : Int))])
    (fun m i wl => m + i = zs.length ∧ ((zs.take i).any fun z => !B z) = false ∧ wl = w) zs.length 0 ⟨rfl, rfl, rfl, rfl, rfl, trivial⟩ ⟨rfl, rfl, rfl⟩ ?_
  rintro m i wl fr0 ⟨hfuel, hno, rfl⟩
  refine if_p (fun hlt => ?_) (fun hge => ?_)
  · replace hlt : (i : Int) < (zs.length : Int) := hlt
    have hi : i < zs.length := by omega
    obtain ⟨m, rfl⟩ : ∃ m', m = m' + 1 := ⟨m - 1, by omega⟩
    obtain ⟨a, rfl, hc⟩ := hz i (.int .i64 zs[i]) (by simp [ivs, hi])
    refine And.intro (by omega) (And.intro hlt ?_)
    refine Exists.intro zs[i] (And.intro (by rw [Int.toNat_natCast, Nat.mul_one]; exact hc) ?_)
    refine call_ (begins_ok zs[i] M r B wl hM hr) ?_
    rintro e w' ⟨rfl, rfl⟩
    refine ⟨_, rfl, ?_⟩
    refine if_ (fun hb => ?_) (fun hb => ?_)
    · refine ⟨(i : Int), rfl, ?_, rfl⟩
      rw [decide_eq_true (by omega), eq_comm, List.any_eq_true]
      exact ⟨zs[i], List.getElem_mem hi, hb⟩
    · have inc : Value.int .i64 (IntKind.i64.wrap ((i : Int) + 1)) = .int .i64 ((i + 1 : Nat) : Int) := by
        rw [wrap_i64 (by omega) (by omega)]
        rfl
      refine ⟨m, i + 1, by omega, ⟨rfl, rfl, rfl, rfl, inc, trivial⟩, by omega, ?_, rfl⟩
      rw [List.take_succ_eq_append_getElem hi, List.any_append, hno, Bool.false_or]
      simpa using hb
  · replace hge : ¬ (i : Int) < (zs.length : Int) := hge
    obtain rfl : i = zs.length := by omega
    rw [List.take_length] at hno
    exact ⟨-1, rfl, by rw [hno]; rfl, rfl⟩
theorem contains_ok (A : Option Addr) (n c : Nat) (zs : List Int) (M r : Nat) (B : Int → Bool) (w : World) (hn : n = zs.length) (hz : Row w A (ivs zs)) (hl : zs.length ≤ 8796093022210) (hM : w.cell? ⟨M, 0, none⟩ = some (.map (some r))) (hr : MapF intK w r (mk B)) :
    Calls Try.prog 69 #[.slice A n c, .func (.func 70) #[] #[.pointer (some ⟨M, 0, none⟩)]] w fun e w' => e = .returned (.bool (zs.any fun z => !B z)) ∧ w' = w := by
  refine enter ok Try.func69 rfl rfl rfl ?_
  refine call_ (indexF_ok A n c zs M r B w hn hz hl hM hr) ?_
  rintro e w' ⟨k, rfl, hk, rfl⟩
  refine ⟨_, rfl, ?_⟩
  rw [← hk]
  exact ⟨rfl, rfl⟩
end Go.Proofs.Ytcpeekeiflglpaa.Code
