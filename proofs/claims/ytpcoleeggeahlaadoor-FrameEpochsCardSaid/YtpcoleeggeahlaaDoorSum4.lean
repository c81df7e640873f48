/- The package sum and its reference, walked: Turned of the reference, and what must work. -/
import Derived.Test.YtpcoleeggeahlaaDoorSum3
namespace Go.Proofs.YtpcoleeggeahlaaDoor.Sum
open Go Go.Proofs.YtpcoleeggeahlaaDoor Go.Proofs.YtpcoleeggeahlaaDoor.Eng Go.Proofs
set_option maxRecDepth 10000

theorem run_zeros (n : Nat) (s : Crc.W) : Crc.run s (List.replicate n 0) = Crc.tn (8 * n) s := by
  induction n generalizing s with
  | zero => rfl
  | succ n ih =>
    rw [List.replicate_succ]
    show Crc.run (Crc.byte s 0) _ = _
    rw [ih, show 8 * (n + 1) = 8 + 8 * n by omega, Crc.tn_add]
    unfold Crc.byte
    rw [(Crc.wide_zero_iff 0).mpr rfl, BitVec.xor_zero]
theorem run_xor (n : Nat) (s : Crc.W) (x : UInt8) (r : List UInt8) (hr : r = List.replicate n 0) : Crc.run s (List.replicate (n + 1) 0) ^^^ Crc.run s (x :: r) = Crc.tn (8 * (n + 1)) (Crc.wide x) := by
  subst hr
  rw [run_zeros]
  show _ ^^^ Crc.run (Crc.byte s x) _ = _
  rw [run_zeros, show 8 * (n + 1) = 8 + 8 * n by omega, Crc.tn_add, Crc.tn_add]
  unfold Crc.byte
  rw [← Crc.tn_xor, ← Crc.tn_xor, ← BitVec.xor_assoc, BitVec.xor_self, BitVec.zero_xor]
theorem not_xor_not (a b : Crc.W) : ~~~a ^^^ ~~~b = a ^^^ b := by
  rw [← BitVec.allOnes_xor, ← BitVec.allOnes_xor, BitVec.xor_comm (BitVec.allOnes 32) a, BitVec.xor_assoc, ← BitVec.xor_assoc (BitVec.allOnes 32), BitVec.xor_self, BitVec.zero_xor]
theorem two_pow_byte (bit : Int) (h0 : 0 ≤ bit) (h7 : bit ≤ 7) : IntKind.u8.wrap ((2 ^ bit.toNat : Nat) : Int) = ((UInt8.ofNat (2 ^ bit.toNat)).toNat : Int) ∧ Crc.wide (UInt8.ofNat (2 ^ bit.toNat)) = 1#32 <<< bit.toNat := by
  have : bit = 0 ∨ bit = 1 ∨ bit = 2 ∨ bit = 3 ∨ bit = 4 ∨ bit = 5 ∨ bit = 6 ∨ bit = 7 := by omega
  rcases this with rfl | rfl | rfl | rfl | rfl | rfl | rfl | rfl <;> decide

/-! ### Right of what is sealed; what must work -/
theorem right_sealed (bs : List UInt8) : right (sealed bs) = true := by
  unfold right
  rw [sealed_length, show bs.length + 4 - 4 = bs.length by omega]
  have : (sealed bs).take bs.length = bs := by simp [sealed]
  rw [this]
  simp
end Go.Proofs.YtpcoleeggeahlaaDoor.Sum
