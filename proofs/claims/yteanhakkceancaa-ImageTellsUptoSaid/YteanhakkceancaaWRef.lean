/- The document's answer for the package word, walked: what needs no order of its own. -/
import Derived.Test.YteanhakkceancaaWWorks
namespace Go.Proofs.Yteanhakkceancaa.Word
open Go Go.Proofs.Yteanhakkceancaa Go.Proofs.Yteanhakkceancaa.Eng Go.Proofs
set_option maxRecDepth 10000

theorem refwide_ok (k : Int) (w : World) : Calls Try.prog 78 #[.int .i64 k] w fun e w' => e = .returned (.bool (wide k)) ∧ w' = w := by
  refine enter ok Try.func78 rfl rfl rfl ?_
  refine if_p (fun h => ⟨ret_bool (by simp [wide, h]), rfl⟩) (fun h1 => ?_)
  refine if_p (fun h => ⟨ret_bool (by simp [wide, h]), rfl⟩) (fun h2 => ?_)
  refine if_p (fun h => ⟨ret_bool (by simp [wide, h]), rfl⟩) (fun h3 => ?_)
  refine ⟨?_, rfl⟩
  show Ending.returned (.bool (decide (k = 8))) = _
  simp [wide, h1, h2, h3]
theorem full_ok (k : Nat) (w : World) (hk : k ≤ 7) : Calls Try.prog 87 #[.int .i64 k] w fun e w' => e = .returned (.int .i64 ((256 ^ k : Nat) : Int)) ∧ w' = w := by
  refine enter ok Try.func87 rfl rfl rfl ?_
  refine den_loop (σ := Nat) (fun i => [(0, .int .i64 k), (3, .int .i64 ((256 ^ i : Nat) : Int)), (4, .int .i64 i)]) (fun m i w' => i ≤ k ∧ m = k - i ∧ w' = w) k 0 ⟨rfl, rfl, rfl, trivial⟩ ⟨Nat.zero_le _, rfl, rfl⟩ ?_
  rintro m i w' fr0 ⟨hi, rfl, rfl⟩
  refine if_p (fun hlt => ?_) (fun hge => ?_)
  · refine ⟨k - (i + 1), i + 1, by omega, ⟨rfl, ?_, ?_, trivial⟩, by omega, rfl, rfl⟩
    · show Value.int .i64 (IntKind.i64.wrap (_ * 256)) = Value.int .i64 _
      have h7 : 256 ^ (i + 1) ≤ 256 ^ 7 := Nat.pow_le_pow_right (by decide) (by omega)
      rw [Nat.pow_succ] at h7 ⊢
      generalize 256 ^ i = q at h7
      have h8 : q * 256 ≤ 72057594037927936 := h7
      rw [wrap_i64 (by omega) (by omega)]
      congr 1
    · show Value.int .i64 (IntKind.i64.wrap _) = _
      rw [wrap_i64 (by omega) (by omega)]
      rfl
  · have : i = k := by omega
    subst this
    exact ⟨rfl, rfl⟩

/-- What bytes are as a number, by the document. -/
def num (sign : Bool) (bs : List UInt8) : Int × Int := if sign = true then (sval bs.length (be bs), 0) else if be bs < 9223372036854775808 then (((be bs : Nat) : Int), 0) else (0, 3)
theorem ret2 {a b c d : Int} (h1 : a = c) (h2 : b = d) : Ending.returned (.tuple #[.int .i64 a, .int .i64 b]) = .returned (.tuple #[.int .i64 c, .int .i64 d]) := by rw [h1, h2]
theorem be_step (bs : List UInt8) (i : Nat) (hi : i < bs.length) : be (bs.take (i + 1)) = be (bs.take i) * 256 + bs[i].toNat := by
  rw [List.take_succ_eq_append_getElem hi, be_snoc]
theorem Number_ok (A : Option Addr) (n c : Nat) (bs : List UInt8) (sign : Bool) (w : World) (hn : n = bs.length) (hr : Row w A (bvs bs)) (hw : wide (bs.length : Int) = true) :
    Calls Try.prog 82 #[.slice A n c, .bool sign] w fun e w' => e = .returned (.tuple #[.int .i64 (num sign bs).1, .int .i64 (num sign bs).2]) ∧ w' = w := by
  subst hn
  have hk := wide_cases hw
  have hbe := be_lt8 bs (by omega)
  refine enter ok Try.func82 rfl rfl rfl ?_
  refine den_loop (σ := Nat) (fun i => [(0, .slice A bs.length c), (1, .bool sign), (6, .int .u64 ((be (bs.take i) : Nat) : Int)), (7, .int .i64 i)]) (fun m i w' => i ≤ bs.length ∧ m = bs.length - i ∧ w' = w) bs.length 0 ⟨rfl, rfl, rfl, rfl, trivial⟩ ⟨Nat.zero_le _, rfl, rfl⟩ ?_
  rintro m i w' fr0 ⟨hi, rfl, rfl⟩
  refine if_p (fun hlt => ?_) (fun hge => ?_)
  · have hi' : i < bs.length := by omega
    obtain ⟨a, rfl, hc⟩ := hr.at_ i (by rw [bvs_length]; exact hi')
    have hv : (bvs bs)[i]'(by rw [bvs_length]; exact hi') = .int .u8 (bs[i].toNat : Int) := by simp [bvs, bv]
    rw [hv] at hc
    refine And.intro (by omega) (And.intro hlt (some_at rfl (Exists.intro _ (And.intro (by rw [Nat.mul_one, Int.toNat_natCast]; exact hc) ?_))))
    refine ⟨bs.length - (i + 1), i + 1, by omega, ⟨rfl, rfl, ?_, ?_, trivial⟩, by omega, rfl, rfl⟩
    · show Value.int .u64 (IntKind.u64.wrap _) = Value.int .u64 _
      have hb := be_lt8 (bs.take (i + 1)) (by rw [List.length_take]; omega)
      have hx := bs[i].toBitVec.isLt
      have hx' : bs[i].toNat < 256 := hx
      rw [be_step bs i hi'] at hb ⊢
      congr 1
      simp only [wrap_u64]
      omega
    · show Value.int .i64 (IntKind.i64.wrap _) = _
      rw [wrap_i64 (by omega) (by omega)]
      rfl
  · have : i = bs.length := by omega
    subst this
    rw [List.take_length]
    have hbe' := be_lt bs
    refine if_p (fun h8 => ?_) (fun h8 => ?_)
    · have h8' : bs.length = 8 := by omega
      cases sign with
      | true =>
        refine ⟨ret2 ?_ rfl, rfl⟩
        show IntKind.i64.wrap _ = sval bs.length (be bs)
        rw [h8', IntKind.wrap_i64]
        show _ = if be bs < 9223372036854775808 then ((be bs : Nat) : Int) else ((be bs : Nat) : Int) - 18446744073709551616
        split <;> omega
      | false =>
        have hnum : num false bs = if be bs < 9223372036854775808 then (((be bs : Nat) : Int), 0) else (0, 3) := rfl
        rw [hnum]
        refine if_p (fun hneg => ?_) (fun hpos => ?_)
        · rw [IntKind.wrap_i64] at hneg
          rw [if_neg (by omega)]
          exact ⟨rfl, rfl⟩
        · rw [IntKind.wrap_i64] at hpos
          rw [if_pos (by omega)]
          refine ⟨ret2 ?_ rfl, rfl⟩
          show IntKind.i64.wrap _ = ((be bs : Nat) : Int)
          rw [wrap_i64 (by omega) (by omega)]
    · have hl : bs.length = 1 ∨ bs.length = 2 ∨ bs.length = 4 := by omega
      have h4 : 256 ^ bs.length ≤ 256 ^ 4 := Nat.pow_le_pow_right (by decide) (by omega)
      have h4' : 256 ^ bs.length ≤ 4294967296 := h4
      have ew : IntKind.i64.wrap ((be bs : Nat) : Int) = ((be bs : Nat) : Int) := wrap_i64 (by omega) (by omega)
      cases sign with
      | false =>
        have hnum : num false bs = if be bs < 9223372036854775808 then (((be bs : Nat) : Int), 0) else (0, 3) := rfl
        rw [hnum, if_pos (by omega)]
        exact ⟨ret2 ew rfl, rfl⟩
      | true =>
        have hnum : num true bs = (sval bs.length (be bs), 0) := rfl
        rw [hnum]
        have hf := fun w => full_ok bs.length w (by omega)
        have hs : sval bs.length (be bs) = if (256 ^ bs.length : Nat) / 2 ≤ be bs then ((be bs : Nat) : Int) - ((256 ^ bs.length : Nat) : Int) else ((be bs : Nat) : Int) := by
          unfold sval
          rcases hl with h | h | h <;> rw [h]
          · show (if be bs < 128 then _ else _) = if 256 / 2 ≤ be bs then _ else _
            split <;> split <;> first | rfl | omega
          · show (if be bs < 32768 then _ else _) = if 65536 / 2 ≤ be bs then _ else _
            split <;> split <;> first | rfl | omega
          · show (if be bs < 2147483648 then _ else _) = if 4294967296 / 2 ≤ be bs then _ else _
            split <;> split <;> first | rfl | omega
        rw [hs]
        have hp : 256 ≤ 256 ^ bs.length := by
          have := Nat.pow_le_pow_right (n := 256) (by decide) (show 1 ≤ bs.length by omega)
          simpa using this
        generalize 256 ^ bs.length = q at hbe' h4' hp hf ⊢
        refine call_ (hf _) ?_
        rintro e w2 ⟨rfl, rfl⟩
        refine ⟨_, rfl, ?_⟩
        have eq2 : IntKind.i64.wrap ((q : Int).tdiv 2) = ((q / 2 : Nat) : Int) := by
          rw [Int.tdiv_eq_ediv_of_nonneg (by omega), wrap_i64 (by omega) (by omega)]
          omega
        refine And.intro (by decide) ?_
        refine if_p (fun hbig => ?_) (fun hsm => ?_)
        · rw [eq2, ew] at hbig
          refine call_ (hf _) ?_
          rintro e w3 ⟨rfl, rfl⟩
          refine ⟨_, rfl, ?_⟩
          rw [if_pos (by omega)]
          refine ⟨ret2 ?_ rfl, rfl⟩
          show IntKind.i64.wrap (IntKind.i64.wrap _ - _) = _
          rw [ew, wrap_i64 (by omega) (by omega)]
        · rw [eq2, ew] at hsm
          rw [if_neg (by omega)]
          exact ⟨ret2 ew rfl, rfl⟩

/-- The document's fits, by powers, is the code's, by shifts. -/
theorem fits_small (k : Nat) (n : Int) (hk : k = 1 ∨ k = 2 ∨ k = 4) : fits k n true = (decide (-(((256 ^ k : Nat) : Int) / 2) ≤ n) && decide (n < ((256 ^ k : Nat) : Int) / 2)) ∧ fits k n false = (decide (0 ≤ n) && decide (n < ((256 ^ k : Nat) : Int))) := by
  rcases hk with rfl | rfl | rfl
  · have e : ((256 ^ 1 : Nat) : Int) = 256 := by decide
    rw [e]
    simp only [fits]
    constructor
    · rw [Bool.eq_iff_iff]
      simp
      omega
    · rw [Bool.eq_iff_iff]
      simp
      omega
  · have e : ((256 ^ 2 : Nat) : Int) = 65536 := by decide
    rw [e]
    simp only [fits]
    constructor
    · rw [Bool.eq_iff_iff]
      simp
      omega
    · rw [Bool.eq_iff_iff]
      simp
      omega
  · have e : ((256 ^ 4 : Nat) : Int) = 4294967296 := by decide
    rw [e]
    simp only [fits]
    constructor
    · rw [Bool.eq_iff_iff]
      simp
      omega
    · rw [Bool.eq_iff_iff]
      simp
      omega
theorem u64_div (n : Int) (j : Nat) (hj : j ≤ 7) : ((n % 18446744073709551616) / 256 ^ j) % 256 = (n / 2 ^ (8 * j)) % 256 := by
  have hj' : j = 0 ∨ j = 1 ∨ j = 2 ∨ j = 3 ∨ j = 4 ∨ j = 5 ∨ j = 6 ∨ j = 7 := by omega
  rcases hj' with rfl | rfl | rfl | rfl | rfl | rfl | rfl | rfl
  · show (n % 18446744073709551616) / 1 % 256 = n / 1 % 256
    omega
  · show (n % 18446744073709551616) / 256 % 256 = n / 256 % 256
    omega
  · show (n % 18446744073709551616) / 65536 % 256 = n / 65536 % 256
    omega
  · show (n % 18446744073709551616) / 16777216 % 256 = n / 16777216 % 256
    omega
  · show (n % 18446744073709551616) / 4294967296 % 256 = n / 4294967296 % 256
    omega
  · show (n % 18446744073709551616) / 1099511627776 % 256 = n / 1099511627776 % 256
    omega
  · show (n % 18446744073709551616) / 281474976710656 % 256 = n / 281474976710656 % 256
    omega
  · show (n % 18446744073709551616) / 72057594037927936 % 256 = n / 72057594037927936 % 256
    omega
/-- What stands behind the last few places were set. -/
def filled (k : Nat) (n : Int) (m : Nat) : List UInt8 := List.replicate m 0 ++ (enc k n).drop m
theorem filled_length (k : Nat) (n : Int) (m : Nat) (h : m ≤ k) : (filled k n m).length = k := by
  simp [filled, enc_length]
  omega
theorem filled_set (k : Nat) (n : Int) (m : Nat) (h : m < k) : (filled k n (m + 1)).set m (encAt k n m) = filled k n m := by
  have e1 : filled k n (m + 1) = List.replicate m 0 ++ (0 :: (enc k n).drop (m + 1)) := by
    unfold filled
    rw [List.replicate_succ', List.append_assoc]
    rfl
  have e2 : (enc k n).drop m = encAt k n m :: (enc k n).drop (m + 1) := by
    rw [List.drop_eq_getElem_cons (by rw [enc_length]; exact h)]
    simp [enc]
  rw [e1, List.set_append_right _ _ (by simp), List.length_replicate, Nat.sub_self, List.set_cons_zero]
  unfold filled
  rw [e2]
theorem filled_zero (k : Nat) (n : Int) : filled k n 0 = enc k n := by simp [filled]
theorem filled_all (k : Nat) (n : Int) : filled k n k = List.replicate k 0 := by
  unfold filled
  rw [List.drop_eq_nil_of_le (by rw [enc_length]; exact Nat.le_refl _), List.append_nil]
end Go.Proofs.Yteanhakkceancaa.Word
