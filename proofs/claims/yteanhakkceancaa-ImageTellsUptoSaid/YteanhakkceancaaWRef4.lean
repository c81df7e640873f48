/- The package word, walked: a number patched; the document's bytes of numbers. -/
import Derived.Test.YteanhakkceancaaWRef3
namespace Go.Proofs.Yteanhakkceancaa.Word
open Go Go.Proofs.Yteanhakkceancaa Go.Proofs.Yteanhakkceancaa.Eng Go.Proofs
set_option maxRecDepth 10000

/-- What a patch does. -/
def pat (bs : List UInt8) (a k n : Int) : Int × List UInt8 := if wide k = true ∧ fits k n false = true ∧ 0 ≤ a ∧ a ≤ (bs.length : Int) - k then (0, patch bs a.toNat k.toNat n) else (2, bs)
/-- The document's bytes of a number; none: it does not fit. -/
def encOr (k n : Int) (sign : Bool) : List UInt8 := if (wide k && fits k n sign) = true then enc k.toNat n else []
theorem own_nil (w : World) (base : Nat) : w.ownsRow base 5 1 (.slice none 0 0) 0 (bvs []) := ⟨rfl, .inl ⟨rfl, rfl⟩⟩
theorem NBytes_ok (k n : Int) (sign : Bool) (w : World) (hlo : -9223372036854775808 ≤ n) (hup : n ≤ 9223372036854775807) :
    Calls Try.prog 79 #[.int .i64 k, .int .i64 n, .bool sign] w fun e w' => ∃ v, e = .returned (.tuple #[v, .bool (wide k && fits k n sign)]) ∧ w'.ownsRow w.heap.size 5 1 v (encOr k n sign).length (bvs (encOr k n sign)) ∧ New w w' := by
  refine enter ok Try.func79 rfl rfl rfl ?_
  have no : (wide k && fits k n sign) = false → ∃ v, Ending.returned (.tuple #[.slice none 0 0, .bool false]) = .returned (.tuple #[v, .bool (wide k && fits k n sign)]) ∧ w.ownsRow w.heap.size 5 1 v (encOr k n sign).length (bvs (encOr k n sign)) ∧ New w w := by
    intro hno
    unfold encOr
    rw [hno]
    exact ⟨_, rfl, own_nil _ _, New.refl _⟩
  refine call_ (refwide_ok k w) ?_
  rintro e w' ⟨rfl, rfl⟩
  refine ⟨_, rfl, ?_⟩
  refine if_ (fun hwk => ?_) (fun hwk => ?_)
  · exact no (by have : wide k = false := by simpa using hwk
                 rw [this, Bool.false_and])
  replace hwk : wide k = true := by simpa using hwk
  have hkc := wide_cases hwk
  obtain ⟨k, rfl⟩ : ∃ x : Nat, k = x := ⟨k.toNat, by omega⟩
  refine seq_cut (σ := Unit) (fun _ => [(0, .int .i64 k), (1, .int .i64 n), (2, .bool sign)]) (fun _ w2 => w2 = w' ∧ fits k n sign = true) ?_ ?_
  rotate_left
  · intro K hK
    have go : fits k n sign = true → ∀ fr, Slots fr [(0, .int .i64 k), (1, .int .i64 n), (2, .bool sign)] → K fr w' := fun hf fr hs => hK () fr w' hs ⟨rfl, hf⟩
    refine if_p (fun h8 => ?_) (fun h8 => ?_)
    · have hk8 : k = 8 := by omega
      have hf8 : fits k n sign = (sign || decide (0 ≤ n)) := by
        subst hk8
        simp [fits]
      cases sign with
      | true => exact go (by rw [hf8]; rfl) _ ⟨rfl, rfl, rfl, trivial⟩
      | false =>
        refine if_p (fun hneg => ?_) (fun hpos => ?_)
        · exact no (by rw [hwk, hf8, Bool.true_and, Bool.false_or]; exact decide_eq_false (by omega))
        · exact go (by rw [hf8, Bool.false_or]; exact decide_eq_true (by omega)) _ ⟨rfl, rfl, rfl, trivial⟩
    · have hk4 : k = 1 ∨ k = 2 ∨ k = 4 := by omega
      obtain ⟨ft, ff⟩ := fits_small k n hk4
      have h4 : 256 ^ k ≤ 256 ^ 4 := Nat.pow_le_pow_right (by decide) (by omega)
      have h4' : 256 ^ k ≤ 4294967296 := h4
      have he : (256 ^ k : Nat) % 2 = 0 := by rcases hk4 with rfl | rfl | rfl <;> rfl
      have hfull := fun w => full_ok k w (by omega)
      generalize 256 ^ k = q at ft ff h4' he hfull
      cases sign with
      | true =>
        refine call_ (hfull _) ?_
        rintro e w1 ⟨rfl, rfl⟩
        refine ⟨_, rfl, ?_⟩
        refine And.intro (by decide) ?_
        have eneg : IntKind.i64.wrap ((IntKind.i64.wrap (0 - (q : Int))).tdiv 2) = -((q : Int) / 2) := by
          rw [wrap_i64 (n := 0 - (q : Int)) (by omega) (by omega)]
          have : (0 - (q : Int)).tdiv 2 = -((q : Int) / 2) := by
            rw [Int.zero_sub, Int.neg_tdiv, Int.tdiv_eq_ediv_of_nonneg (by omega)]
          rw [this, wrap_i64 (by omega) (by omega)]
        have epos : IntKind.i64.wrap ((q : Int).tdiv 2) = (q : Int) / 2 := by
          rw [Int.tdiv_eq_ediv_of_nonneg (by omega), wrap_i64 (by omega) (by omega)]
        refine if_p (fun h1 => ?_) (fun h1 => ?_)
        · rw [eneg] at h1
          exact no (by rw [hwk, ft, Bool.true_and, decide_eq_false (show ¬ -((q : Int) / 2) ≤ n by omega), Bool.false_and])
        rw [eneg] at h1
        refine call_ (hfull _) ?_
        rintro e w2 ⟨rfl, rfl⟩
        refine ⟨_, rfl, ?_⟩
        refine And.intro (by decide) ?_
        refine if_p (fun h2 => ?_) (fun h2 => ?_)
        · rw [epos] at h2
          exact no (by rw [hwk, ft, Bool.true_and, decide_eq_false (show ¬ n < (q : Int) / 2 by omega), Bool.and_false])
        rw [epos] at h2
        exact go (by rw [ft, decide_eq_true (show -((q : Int) / 2) ≤ n by omega), decide_eq_true (show n < (q : Int) / 2 by omega)]; rfl) _ ⟨rfl, rfl, rfl, trivial⟩
      | false =>
        refine if_p (fun h1 => ?_) (fun h1 => ?_)
        · exact no (by rw [hwk, ff, Bool.true_and, decide_eq_false (show ¬ 0 ≤ n by omega), Bool.false_and])
        refine call_ (hfull _) ?_
        rintro e w2 ⟨rfl, rfl⟩
        refine ⟨_, rfl, ?_⟩
        refine if_p (fun h2 => ?_) (fun h2 => ?_)
        · exact no (by rw [hwk, ff, Bool.true_and, decide_eq_false (show ¬ n < (q : Int) by omega), Bool.and_false])
        exact go (by rw [ff, decide_eq_true (show 0 ≤ n by omega), decide_eq_true (show n < (q : Int) by omega)]; rfl) _ ⟨rfl, rfl, rfl, trivial⟩
  rintro s w2 fr0 ⟨rfl, hf⟩
  have hok : (wide (k : Int) && fits k n sign) = true := by rw [hwk, hf]; rfl
  have hen : encOr k n sign = enc k n := by unfold encOr; rw [if_pos hok, Int.toNat_natCast]
  rw [hok, hen, enc_length]
  refine make_ ok rfl rfl rfl rfl rfl rfl (n := k) (by show 1 * k ≤ _; omega) (by omega) rfl rfl ?_
  intro w3 own3 n3
  have hz0 : List.replicate k (Value.int .u8 0) = bvs (List.replicate k 0) := by
    unfold bvs
    rw [List.map_replicate]
    rfl
  have own3' : w3.ownsRow w2.heap.size 5 1 (.slice (some ⟨w2.heap.size, 0, none⟩) k k) k (bvs (filled k n k)) := by
    rw [filled_all, ← hz0]
    exact own3
  refine den_loop (σ := Nat) (fun m => [(8, .int .u64 (n % 18446744073709551616 / 256 ^ (k - m))), (9, .slice (some ⟨w2.heap.size, 0, none⟩) k k), (10, .int .i64 ((m : Int) - 1))])
    (fun m' m wl => m ≤ k ∧ m' = m ∧ wl.ownsRow w2.heap.size 5 1 (.slice (some ⟨w2.heap.size, 0, none⟩) k k) k (bvs (filled k n m)) ∧ New w2 wl) k k ?_ ⟨Nat.le_refl _, rfl, own3', n3⟩ ?_
  · refine ⟨?_, rfl, ?_, trivial⟩
    · show Value.int .u64 (IntKind.u64.wrap n) = _
      rw [wrap_u64, Nat.sub_self]
      simp
    · show Value.int .i64 (IntKind.i64.wrap _) = _
      rw [wrap_i64 (by omega) (by omega)]
  rintro m m0 wl fr1 ⟨hm, rfl, hown, hl⟩
  refine if_p (fun hge => ?_) (fun hlt => ?_)
  · obtain ⟨m, rfl⟩ : ∃ x, m = x + 1 := ⟨m - 1, by omega⟩
    have hcast : (((m + 1 : Nat) : Int) - 1).toNat = m := by omega
    have e0 : (⟨w2.heap.size, 0, none⟩ : Addr).add ((((m + 1 : Nat) : Int) - 1).toNat * 1) = ⟨w2.heap.size, m, none⟩ := by rw [hcast, Nat.mul_one, ad1]
    have hflen := filled_length k n (m + 1) (by omega)
    obtain ⟨hc, hfz, hst⟩ := own_store hown m (by rw [bvs_length, hflen]; omega)
    have hx0 : 0 ≤ n % 18446744073709551616 / 256 ^ (k - (m + 1)) := Int.ediv_nonneg (Int.emod_nonneg _ (by decide)) (Int.le_of_lt (Int.pow_pos (by decide)))
    refine And.intro (by decide) (And.intro (by omega) (And.intro (by omega) (And.intro ⟨_, by rw [e0]; exact hc⟩ (And.intro (by rw [e0]; exact hfz) (And.intro (by decide) ?_)))))
    have ev : Value.int .u8 (IntKind.u8.wrap ((n % 18446744073709551616 / 256 ^ (k - (m + 1))).tmod 256)) = bv (encAt k n m) := by
      rw [wrap_byte, Int.tmod_eq_emod_of_nonneg hx0, u64_div n (k - (m + 1)) (by omega)]
      have : k - 1 - m = k - (m + 1) := by omega
      unfold encAt
      rw [this, Int.emod_emod_of_dvd _ (Int.dvd_refl 256)]
    obtain ⟨own5, mod5⟩ := hst (bv (encAt k n m))
    rw [bvs_set, filled_set k n m (by omega)] at own5
    refine ⟨m, m, by omega, ⟨?_, rfl, ?_, trivial⟩, by omega, rfl, ?_, ?_⟩
    · show Value.int .u64 (IntKind.u64.wrap ((n % 18446744073709551616 / 256 ^ (k - (m + 1))).tdiv 256)) = _
      have hkm : k - m = k - (m + 1) + 1 := by omega
      rw [Int.tdiv_eq_ediv_of_nonneg hx0, hkm, Int.pow_succ, ← Int.ediv_ediv_of_nonneg (Int.le_of_lt (Int.pow_pos (by decide))), wrap_u64, Int.emod_eq_of_lt]
      · exact Int.ediv_nonneg hx0 (by decide)
      · have h1 : n % 18446744073709551616 / 256 ^ (k - (m + 1)) ≤ n % 18446744073709551616 := Int.ediv_le_self _ (Int.emod_nonneg _ (by decide))
        have h2 : n % 18446744073709551616 < 18446744073709551616 := Int.emod_lt_of_pos _ (by decide)
        generalize n % 18446744073709551616 / 256 ^ (k - (m + 1)) = y at hx0 h1
        omega
    · show Value.int .i64 (IntKind.i64.wrap _) = _
      rw [wrap_i64 (by omega) (by omega)]
      congr 1
      omega
    · rw [e0]
      have := own5
      rw [← ev] at this
      exact this
    · rw [e0]
      have := mod5
      rw [← ev] at this
      exact Mod.trans hl this fun b hb e => by omega
  · have : m = 0 := by omega
    subst this
    rw [filled_zero] at hown
    exact ⟨_, rfl, hown, hl⟩
end Go.Proofs.Yteanhakkceancaa.Word
