/- Plain mathematics of numbers in bytes. No program in sight. -/
import Derived.Test.YteanhakkceancaaMem
namespace Go.Proofs.Yteanhakkceancaa.Word
open Go Go.Proofs.Yteanhakkceancaa.Eng

def be (bs : List UInt8) : Nat := bs.foldl (fun n b => n * 256 + b.toNat) 0
theorem be_snoc (bs : List UInt8) (b : UInt8) : be (bs ++ [b]) = be bs * 256 + b.toNat := by
  unfold be
  rw [List.foldl_append]
  rfl
theorem be_lt' (l : List UInt8) : ∀ n m : Nat, n < m → l.foldl (fun n b => n * 256 + b.toNat) n < m * 256 ^ l.length := by
  induction l with
  | nil => intro n m h; simpa using h
  | cons b l ih =>
    intro n m h
    have hb := b.toBitVec.isLt
    have e : b.toNat = b.toBitVec.toNat := rfl
    have := ih (n * 256 + b.toNat) (m * 256) (by omega)
    rw [List.foldl_cons, List.length_cons, Nat.pow_succ, Nat.mul_comm (256 ^ l.length), ← Nat.mul_assoc]
    exact this
theorem be_lt (bs : List UInt8) : be bs < 256 ^ bs.length := by
  have := be_lt' bs 0 1 (by decide)
  rw [Nat.one_mul] at this
  exact this
theorem be_lt8 (bs : List UInt8) (h : bs.length ≤ 8) : be bs < 18446744073709551616 := by
  have := be_lt bs
  have h2 : (256 : Nat) ^ bs.length ≤ 256 ^ 8 := Nat.pow_le_pow_right (by decide) h
  omega
def wide (k : Int) : Bool := decide (k = 1) || decide (k = 2) || decide (k = 4) || decide (k = 8)
theorem wide_cases {k : Int} (h : wide k = true) : k = 1 ∨ k = 2 ∨ k = 4 ∨ k = 8 := by
  simp only [wide, Bool.or_eq_true, decide_eq_true_eq] at h
  omega
/-- A number's value, with a sign. -/
def sval (k : Nat) (n : Nat) : Int := if n < 2 ^ (8 * k - 1) then (n : Int) else (n : Int) - 2 ^ (8 * k)
/-- What is read: the number, the answer, the place behind. -/
def get (sign : Bool) (bs : List UInt8) (i : Nat) (k : Int) : Int × Int × Nat :=
  if wide k = true then
    if (bs.length : Int) - i < k then (0, 7, i) else
    if sign = true then (sval k.toNat (be ((bs.drop i).take k.toNat)), 0, i + k.toNat) else
    if be ((bs.drop i).take k.toNat) < 9223372036854775808 then ((be ((bs.drop i).take k.toNat) : Nat), 0, i + k.toNat) else (0, 3, i)
  else (0, 2, i)

theorem wrap_u64 (n : Int) : IntKind.u64.wrap n = n % 18446744073709551616 := by simp [IntKind.wrap, IntKind.bits, IntKind.signed]
theorem bv64_wrap_u (z : Int) : BitVec.ofInt 64 (IntKind.u64.wrap z) = BitVec.ofInt 64 z := by
  apply BitVec.eq_of_toNat_eq
  rw [BitVec.toNat_ofInt, BitVec.toNat_ofInt, wrap_u64]
  omega
theorem bv64_wrap_i (z : Int) : BitVec.ofInt 64 (IntKind.i64.wrap z) = BitVec.ofInt 64 z := by
  apply BitVec.eq_of_toNat_eq
  rw [BitVec.toNat_ofInt, BitVec.toNat_ofInt, IntKind.wrap_i64]
  omega
theorem bv64_nat (n : Nat) (h : n < 18446744073709551616) : (BitVec.ofInt 64 (n : Int)).toNat = n := by
  rw [BitVec.toNat_ofInt]
  omega
theorem or_low (y c : Nat) (hc : c < 256) : (y * 256) ||| c = y * 256 + c := by
  have := Nat.shiftLeft_add_eq_or_of_lt (b := c) (i := 8) (by simpa using hc) y
  rw [Nat.shiftLeft_eq] at this
  exact this.symm
theorem bits_or_u64 (x y : Int) : bits .or .u64 x y = IntKind.u64.wrap ((BitVec.ofInt 64 x ||| BitVec.ofInt 64 y).toNat : Int) := rfl
theorem bits_or_i64 (x y : Int) : bits .or .i64 x y = IntKind.i64.wrap ((BitVec.ofInt 64 x ||| BitVec.ofInt 64 y).toNat : Int) := rfl
theorem or_nat (p c : Nat) (hp : p < 18446744073709551616) (hc : c < 18446744073709551616) : (BitVec.ofInt 64 (p : Int) ||| BitVec.ofInt 64 (c : Int)).toNat = p ||| c := by
  rw [BitVec.toNat_or, bv64_nat p hp, bv64_nat c hc]
theorem u_core (p c : Nat) (hl : p ||| c = p + c) (h : p + c < 18446744073709551616) : IntKind.u64.wrap ((BitVec.ofInt 64 (p : Int) ||| BitVec.ofInt 64 (c : Int)).toNat : Int) = ((p + c : Nat) : Int) := by
  rw [or_nat p c (by omega) (by omega), hl, wrap_u64]
  omega
theorem i_core (p c : Nat) (hl : p ||| c = p + c) (h : p + c < 18446744073709551616) : IntKind.i64.wrap ((BitVec.ofInt 64 (p : Int) ||| BitVec.ofInt 64 (c : Int)).toNat : Int) = IntKind.i64.wrap ((p + c : Nat) : Int) := by
  rw [or_nat p c (by omega) (by omega), hl]
theorem or_shl_u (y c : Nat) (hc : c < 256) (h : y * 256 + c < 18446744073709551616) : bits .or .u64 (IntKind.u64.wrap ((y : Int) * 2 ^ 8)) (IntKind.u64.wrap (c : Int)) = ((y * 256 + c : Nat) : Int) := by
  have e : BitVec.ofInt 64 ((y : Int) * 2 ^ 8) = BitVec.ofInt 64 ((y * 256 : Nat) : Int) := congrArg _ (by omega)
  rw [bits_or_u64, bv64_wrap_u, bv64_wrap_u, e]
  exact u_core (y * 256) c (or_low y c hc) h
theorem or_shl_i (z : Int) (y c : Nat) (hz : z = IntKind.i64.wrap (y : Int)) (hc : c < 256) (h : y * 256 + c < 18446744073709551616) : bits .or .i64 (IntKind.i64.wrap (z * 2 ^ 8)) (IntKind.i64.wrap (c : Int)) = IntKind.i64.wrap ((y * 256 + c : Nat) : Int) := by
  have e : BitVec.ofInt 64 (z * 2 ^ 8) = BitVec.ofInt 64 ((y * 256 : Nat) : Int) := by
    apply BitVec.eq_of_toNat_eq
    rw [BitVec.toNat_ofInt, BitVec.toNat_ofInt, hz, IntKind.wrap_i64]
    omega
  rw [bits_or_i64, bv64_wrap_i, bv64_wrap_i, e]
  exact i_core (y * 256) c (or_low y c hc) h
/-- 'x << spare >> spare' gives the sign. -/
theorem sign_ext (k : Int) (n : Nat) (hk : wide k = true) (hn : n < 256 ^ k.toNat) :
    IntKind.i64.wrap (IntKind.i64.wrap (n : Int) * 2 ^ min (IntKind.i64.wrap (64 - IntKind.i64.wrap (8 * k))).toNat IntKind.i64.bits) / 2 ^ min (IntKind.i64.wrap (64 - IntKind.i64.wrap (8 * k))).toNat IntKind.i64.bits = sval k.toNat n := by
  unfold sval
  rcases wide_cases hk with rfl | rfl | rfl | rfl
  · have e : min (IntKind.i64.wrap (64 - IntKind.i64.wrap (8 * 1))).toNat IntKind.i64.bits = 56 := by decide
    have hn' : n < 256 := hn
    rw [e, IntKind.wrap_i64, IntKind.wrap_i64]
    show _ = if n < 128 then (n : Int) else (n : Int) - 256
    split <;> omega
  · have e : min (IntKind.i64.wrap (64 - IntKind.i64.wrap (8 * 2))).toNat IntKind.i64.bits = 48 := by decide
    have hn' : n < 65536 := hn
    rw [e, IntKind.wrap_i64, IntKind.wrap_i64]
    show _ = if n < 32768 then (n : Int) else (n : Int) - 65536
    split <;> omega
  · have e : min (IntKind.i64.wrap (64 - IntKind.i64.wrap (8 * 4))).toNat IntKind.i64.bits = 32 := by decide
    have hn' : n < 4294967296 := hn
    rw [e, IntKind.wrap_i64, IntKind.wrap_i64]
    show _ = if n < 2147483648 then (n : Int) else (n : Int) - 4294967296
    split <;> omega
  · have e : min (IntKind.i64.wrap (64 - IntKind.i64.wrap (8 * 8))).toNat IntKind.i64.bits = 0 := by decide
    have hn' : n < 18446744073709551616 := hn
    rw [e, IntKind.wrap_i64, IntKind.wrap_i64]
    show _ = if n < 9223372036854775808 then (n : Int) else (n : Int) - 18446744073709551616
    split <;> omega
end Go.Proofs.Yteanhakkceancaa.Word
