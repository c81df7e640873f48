/- The document's answer for the package word, walked: numbers put behind bytes; and a copy of numbers. -/
import Derived.Test.YteanhakkceancaaWRef4
namespace Go.Proofs.Yteanhakkceancaa.Word
open Go Go.Proofs.Yteanhakkceancaa Go.Proofs.Yteanhakkceancaa.Eng Go.Proofs
set_option maxRecDepth 10000

theorem own_row {w : World} {base : Nat} {e : TypeId} {size n : Nat} {A : Option Addr} {c : Nat} {xs : List Value} (h : w.ownsRow base e size (.slice A n c) n xs) : n ≤ c ∧ c ≤ 9223372036854775807 ∧ Row w A xs ∧ ∀ a, A = some a → base ≤ a.block ∧ a.block < w.heap.size := by
  obtain ⟨A', c', he, h1, h2, h3, h4⟩ := own_slice h
  cases he
  exact ⟨h1, h2, h3, fun a ha => ⟨(h4 a ha).1, (h4 a ha).2.1⟩⟩
/-- Below the old end nothing is turned by what turns new blocks alone. -/
theorem New.of_own {w w1 w2 : World} {v : Value} {e : TypeId} {size n : Nat} {xs : List Value} (h : New w w1) (ho : w1.ownsRow w.heap.size e size v n xs) (k : Mod (fun b => some b = v.ownBlock) w1 w2) : New w w2 :=
  Mod.trans h k fun b hb e => by
    have := (ho.lt b e.symm).1
    omega
theorem good_false {k : Int} {sign : Bool} {zs : List Int} {i : Nat} (hi : i < zs.length) (h : (wide k && fits k zs[i] sign) = false) : good k sign zs = false := by
  unfold good
  cases hw : wide k with
  | false => rfl
  | true =>
    rw [hw, Bool.true_and] at h
    have : zs.any (fun n => !fits k n sign) = true := List.any_eq_true.mpr ⟨zs[i], List.getElem_mem hi, by rw [h]; rfl⟩
    rw [this]
    rfl
theorem Put_ok (A : Option Addr) (c : Nat) (bs : List UInt8) (k : Int) (sign : Bool) (C : Option Addr) (q qc : Nat) (zs : List Int) (w : World) (hr : Row w A (bvs bs)) (hc : bs.length ≤ c) (ht : c ≤ 9223372036854775807) (hz : Row w C (ivs zs)) (hq : q = zs.length)
    (hb : ∀ z ∈ zs, -9223372036854775808 ≤ z ∧ z ≤ 9223372036854775807) (hm : bs.length + 8 * zs.length ≤ 140737488355328) :
    Calls Try.prog 66 #[.slice A bs.length c, .int .i64 k, .bool sign, .slice C q qc] w fun e w' => ∃ A' c', e = .returned (.tuple #[.slice A' (allBs bs k sign zs).length c', .int .i64 (allErr k sign zs)]) ∧
      Row w' A' (bvs (allBs bs k sign zs)) ∧ (allBs bs k sign zs).length ≤ c' ∧ c' ≤ 9223372036854775807 ∧ New w w' ∧ ∀ a, A' = some a → A = some a ∨ w.heap.size ≤ a.block ∧ a.block < w'.heap.size := by
  refine enter ok Try.func66 rfl rfl rfl ?_
  refine append2_ ok rfl rfl rfl rfl (own_lit w [] 5 1 0 w.heap.size (Nat.le_refl _) rfl (by omega)) rfl rfl (hr.new (New.alloc _ _)) (by rw [bvs_length]; exact (Nat.mul_one _).symm) (bvs_one bs) (by decide) rfl (by show (0 + bs.length) * 1 ≤ _; omega) (by omega) (by simp) ?_
  intro A0 c0 w0 own0 mod0 _
  rw [Nat.zero_add] at own0
  replace own0 : w0.ownsRow w.heap.size 5 1 (.slice A0 bs.length c0) bs.length (bvs bs) := own0
  have n0 : New w w0 := Mod.trans (New.alloc w _) mod0 (by
    intro i hi h
    simp only [Value.ownBlock, Option.some.injEq] at h
    omega)
  have e0 : (Value.slice A0 (0 + bs.length) c0) = .slice A0 bs.length c0 := by rw [Nat.zero_add]
  refine call_ (refwide_ok k w0) ?_
  rintro e w1 ⟨rfl, rfl⟩
  refine ⟨_, rfl, ?_⟩
  have no : ∀ {w2 : World}, New w w2 → good k sign zs = false → ∃ A' c', Ending.returned (.tuple #[.slice A bs.length c, .int .i64 2]) = .returned (.tuple #[.slice A' (allBs bs k sign zs).length c', .int .i64 (allErr k sign zs)]) ∧
      Row w2 A' (bvs (allBs bs k sign zs)) ∧ (allBs bs k sign zs).length ≤ c' ∧ c' ≤ 9223372036854775807 ∧ New w w2 ∧ ∀ a, A' = some a → A = some a ∨ w.heap.size ≤ a.block ∧ a.block < w2.heap.size := by
    intro w2 n2 hg
    unfold allErr allBs
    rw [hg]
    exact ⟨A, c, rfl, hr.new n2, hc, ht, n2, fun a ha => .inl ha⟩
  refine if_ (fun hwk => ?_) (fun hwk => ?_)
  · exact no n0 (by
      have : wide k = false := by simpa using hwk
      unfold good
      rw [this]
      rfl)
  replace hwk : wide k = true := by simpa using hwk
  have hkc := wide_cases hwk
  refine den_loop (σ := Nat × Option Addr × Nat × Nat) (fun s => [(0, .slice A bs.length c), (1, .int .i64 k), (2, .bool sign), (3, .slice C q qc), (10, .slice s.2.1 s.2.2.1 s.2.2.2), (11, .int .i64 s.1)])
    (fun m s wl => s.1 ≤ q ∧ m = q - s.1 ∧ s.2.2.1 = (bs ++ (zs.take s.1).flatMap (enc k.toNat)).length ∧ wl.ownsRow w.heap.size 5 1 (.slice s.2.1 s.2.2.1 s.2.2.2) s.2.2.1 (bvs (bs ++ (zs.take s.1).flatMap (enc k.toNat))) ∧ New w wl ∧ (zs.take s.1).any (fun n => !fits k n sign) = false) q (0, A0, bs.length, c0) ⟨rfl, rfl, rfl, rfl, e0, rfl, trivial⟩
    ⟨Nat.zero_le _, rfl, by simp, by simpa using own0, n0, by simp⟩ ?_
  rintro m ⟨i, A1, n1, c1⟩ wl fr0 ⟨hi, rfl, hn1, own1, nl, hno⟩
  dsimp only at hi hn1 own1 nl hno
  have hlen : (bs ++ (zs.take i).flatMap (enc k.toNat)).length = bs.length + k.toNat * i := by rw [List.length_append, flat_length, List.length_take, Nat.min_eq_left (by omega)]
  have hki : k.toNat * i ≤ 8 * i := Nat.mul_le_mul_right _ (by omega)
  refine if_p (fun hlt => ?_) (fun hge => ?_)
  · have hi' : i < zs.length := by omega
    obtain ⟨a, rfl, hcell⟩ := (hz.new nl).at_ i (by simp [ivs]; omega)
    have hzv : (ivs zs)[i]'(by simp [ivs]; omega) = .int .i64 zs[i] := by simp [ivs]
    rw [hzv] at hcell
    obtain ⟨lo, up⟩ := hb zs[i] (List.getElem_mem hi')
    refine And.intro (by omega) (And.intro hlt (some_at rfl (Exists.intro _ (And.intro (by rw [Nat.mul_one, Int.toNat_natCast]; exact hcell) ?_))))
    refine call_ (NBytes_ok k zs[i] sign wl lo up) ?_
    rintro e w5 ⟨v, rfl, own5, n5⟩
    obtain ⟨A5, c5, rfl, _, _, row5, _⟩ := own_slice own5
    refine ⟨_, rfl, ?_⟩
    refine if_ (fun hbad => ?_) (fun hgood => ?_)
    · exact no (nl.trans n5) (good_false hi' (Bool.not_eq_true' _ ▸ hbad))
    replace hgood : (wide k && fits k zs[i] sign) = true := by simpa using hgood
    have hen : encOr k zs[i] sign = enc k.toNat zs[i] := by unfold encOr; rw [if_pos hgood]
    rw [hen] at row5
    have hfit : fits k zs[i] sign = true := by rw [hwk, Bool.true_and] at hgood; exact hgood
    have own6 := own_new n5 own1
    have hl5 : (encOr k zs[i] sign).length = k.toNat := by rw [hen, enc_length]
    refine append2_ ok rfl rfl rfl rfl own6 rfl rfl row5 (by rw [bvs_length, hl5, enc_length]; exact (Nat.mul_one _).symm) (bvs_one _) (by decide) rfl (by rw [hl5]; show (n1 + k.toNat) * 1 ≤ _; omega) (by rw [hl5]; omega) (Nat.le_trans nl.size n5.size) ?_
    intro A7 c7 w7 own7 mod7 _
    have n7 := New.of_own (nl.trans n5) own6 mod7
    refine ⟨q - (i + 1), (i + 1, A7, n1 + k.toNat, c7), by omega, ⟨rfl, rfl, rfl, rfl, ?_, ?_, trivial⟩, by show i + 1 ≤ q; omega, rfl, ?_, ?_, n7, ?_⟩
    · show Value.slice A7 (n1 + (encOr k zs[i] sign).length) c7 = _
      rw [hl5]
    · show Value.int .i64 (IntKind.i64.wrap _) = _
      rw [wrap_i64 (by omega) (by omega)]
      rfl
    · show n1 + k.toNat = _
      rw [flat_take zs _ i hi', ← List.append_assoc, List.length_append, enc_length, ← hn1]
    · show w7.ownsRow w.heap.size 5 1 (.slice A7 (n1 + k.toNat) c7) (n1 + k.toNat) (bvs (bs ++ (zs.take (i + 1)).flatMap (enc k.toNat)))
      rw [flat_take zs _ i hi', ← List.append_assoc, bvs_append]
      rw [hl5] at own7
      exact own7
    · show (zs.take (i + 1)).any _ = false
      rw [List.take_succ_eq_append_getElem hi', List.any_append, hno, Bool.false_or, List.any_cons, List.any_nil, Bool.or_false, hfit]
      rfl
  · have : i = q := by omega
    subst this
    rw [hq, List.take_length] at hno hn1 own1
    have hg : good k sign zs = true := by
      unfold good
      rw [hwk, hno]
      rfl
    unfold allErr allBs
    rw [hg, if_pos rfl, if_pos rfl]
    subst hn1
    obtain ⟨h1, h2, h3, h4⟩ := own_row own1
    exact ⟨_, _, rfl, h3, h1, h2, nl, fun a ha => .inr (h4 a ha)⟩

end Go.Proofs.Yteanhakkceancaa.Word
