/- The package sum and its reference, walked: Turned of the reference, and what must work. -/
import Derived.Test.YtedinhcapfhlhaaDoorSum3
namespace Go.Proofs.YtedinhcapfhlhaaDoor.Sum
open Go Go.Proofs.YtedinhcapfhlhaaDoor Go.Proofs.YtedinhcapfhlhaaDoor.Eng Go.Proofs
set_option maxRecDepth 10000

theorem run_zeros (n : Nat) (s : Crc.W) : Crc.run s (List.replicate n 0) = Crc.tn (8 * n) s := by
  induction n generalizing s with
  | zero => rfl
  | succ n ih =>
    rw [List.replicate_succ]
    show Crc.run (Crc.byte s 0) _ = _
    rw [ih, show 8 * (n + 1) = 8 + 8 * n by omega, Crc.tn_add]
    unfold Crc.byte
    rw [(Crc.wide_zero_iff 0).mpr rfl, BitVec.xor_zero]
theorem run_xor (n : Nat) (s : Crc.W) (x : UInt8) (r : List UInt8) (hr : r = List.replicate n 0) : Crc.run s (List.replicate (n + 1) 0) ^^^ Crc.run s (x :: r) = Crc.tn (8 * (n + 1)) (Crc.wide x) := by
  subst hr
  rw [run_zeros]
  show _ ^^^ Crc.run (Crc.byte s x) _ = _
  rw [run_zeros, show 8 * (n + 1) = 8 + 8 * n by omega, Crc.tn_add, Crc.tn_add]
  unfold Crc.byte
  rw [← Crc.tn_xor, ← Crc.tn_xor, ← BitVec.xor_assoc, BitVec.xor_self, BitVec.zero_xor]
theorem not_xor_not (a b : Crc.W) : ~~~a ^^^ ~~~b = a ^^^ b := by
  rw [← BitVec.allOnes_xor, ← BitVec.allOnes_xor, BitVec.xor_comm (BitVec.allOnes 32) a, BitVec.xor_assoc, ← BitVec.xor_assoc (BitVec.allOnes 32), BitVec.xor_self, BitVec.zero_xor]
theorem two_pow_byte (bit : Int) (h0 : 0 ≤ bit) (h7 : bit ≤ 7) : IntKind.u8.wrap ((2 ^ bit.toNat : Nat) : Int) = ((UInt8.ofNat (2 ^ bit.toNat)).toNat : Int) ∧ Crc.wide (UInt8.ofNat (2 ^ bit.toNat)) = 1#32 <<< bit.toNat := by
  have : bit = 0 ∨ bit = 1 ∨ bit = 2 ∨ bit = 3 ∨ bit = 4 ∨ bit = 5 ∨ bit = 6 ∨ bit = 7 := by omega
  rcases this with rfl | rfl | rfl | rfl | rfl | rfl | rfl | rfl <;> decide

theorem refTurned_ok (c : Crc.W) (size at_ bit : Int) (w : World) :
    Calls Tryd.prog 26 #[.int .u32 c.toNat, .int .i64 size, .int .i64 at_, .int .i64 bit] w fun e w' => e = .returned (.tuple #[.int .u32 (turned c size at_ bit).toNat, .int .i64 (turnedNo size at_ bit)]) ∧ New w w' := by
  refine enter ok Tryd.func26 rfl rfl rfl ?_
  have bad : turnedBad size at_ bit = true → Ending.returned (.tuple #[.int .u32 0, .int .i64 2]) = .returned (.tuple #[.int .u32 (turned c size at_ bit).toNat, .int .i64 (turnedNo size at_ bit)]) := by
    intro h
    unfold turned turnedNo
    rw [h]
    rfl
  refine if_p (fun h => ⟨bad (by simp [turnedBad, h]), New.refl _⟩) (fun h1 => ?_)
  refine if_p (fun h => ⟨bad (by simp [turnedBad, h]), New.refl _⟩) (fun h2 => ?_)
  refine if_p (fun h => ⟨bad (by simp [turnedBad, h]), New.refl _⟩) (fun h3 => ?_)
  refine if_p (fun h => ⟨bad (by simp [turnedBad, h]), New.refl _⟩) (fun h4 => ?_)
  refine if_p (fun h => ⟨bad (by simp [turnedBad, h]), New.refl _⟩) (fun h5 => ?_)
  refine if_p (fun h => ⟨bad (by simp [turnedBad, h]), New.refl _⟩) (fun h6 => ?_)
  have good : turnedBad size at_ bit = false := by simp [turnedBad, h1, h2, h3, h4, h5, h6]
  obtain ⟨n, hn⟩ : ∃ n : Nat, size - at_ = (n + 1 : Nat) := ⟨(size - at_ - 1).toNat, by omega⟩
  have es : IntKind.i64.wrap (size - at_) = ((n + 1 : Nat) : Int) := by
    rw [wrap_i64 (n := size - at_) (by omega) (by omega), hn]
  refine den_loop (σ := Nat) (fun k => [(0, .int .u32 (c.toNat : Int)), (1, .int .i64 size), (2, .int .i64 at_), (3, .int .i64 bit), (10, .int .i64 ((2 ^ k : Nat) : Int)), (11, .int .i64 k)]) (fun m k w' => k ≤ bit.toNat ∧ m = bit.toNat - k ∧ w' = w) bit.toNat 0 ?_ ⟨Nat.zero_le _, rfl, rfl⟩ ?_
  · exact ⟨rfl, rfl, rfl, rfl, rfl, rfl, trivial⟩
  rintro m k w1 fr0 ⟨hk, rfl, rfl⟩
  refine if_p (fun hlt => ?_) (fun hge => ?_)
  · refine ⟨bit.toNat - (k + 1), k + 1, by omega, ⟨rfl, rfl, rfl, rfl, ?_, ?_, trivial⟩, by omega, rfl, rfl⟩
    · show Value.int .i64 (IntKind.i64.wrap _) = _
      have h64 : 2 ^ k ≤ 2 ^ 7 := Nat.pow_le_pow_right (by decide) (by omega)
      rw [Nat.pow_succ]
      generalize 2 ^ k = p at h64 ⊢
      rw [wrap_i64 (by omega) (by omega)]
      congr 1
      omega
    · show Value.int .i64 (IntKind.i64.wrap _) = _
      rw [wrap_i64 (by omega) (by omega)]
      rfl
  have : k = bit.toNat := by omega
  subst this
  refine make_ ok rfl rfl rfl rfl rfl es (by show 1 * (n + 1) ≤ _; omega) (by omega) rfl rfl ?_
  intro wa owna newa
  refine make_ ok rfl rfl rfl rfl rfl es (by show 1 * (n + 1) ≤ _; omega) (by omega) rfl rfl ?_
  intro wb ownb newb
  have hz : ∀ k, List.replicate k (Value.int .u8 0) = bvs (List.replicate k 0) := by
    intro k
    unfold bvs
    rw [List.map_replicate]
    rfl
  change World.ownsRow _ _ _ _ _ _ (List.replicate _ (Value.int .u8 0)) at owna ownb
  rw [hz] at owna ownb
  obtain ⟨hc, hf, hst⟩ := own_store ownb 0 (by rw [bvs_length]; simp)
  refine And.intro (by decide) (And.intro (by omega) (some_at rfl (And.intro ⟨_, hc⟩ (And.intro hf ?_))))
  obtain ⟨e1, e2⟩ := two_pow_byte bit (by omega) (by omega)
  obtain ⟨ownc, modc⟩ := hst (.int .u8 (IntKind.u8.wrap ((2 ^ bit.toNat : Nat) : Int)))
  have hset : (bvs (List.replicate (n + 1) 0)).set 0 (.int .u8 (IntKind.u8.wrap ((2 ^ bit.toNat : Nat) : Int))) = bvs (UInt8.ofNat (2 ^ bit.toNat) :: List.replicate n 0) := by
    rw [e1, List.replicate_succ]
    rfl
  rw [hset] at ownc
  obtain ⟨A1, c1, he1, _, _, row1, hA1⟩ := own_slice owna
  cases he1
  obtain ⟨A2, c2, he2, _, _, row2, _⟩ := own_slice ownc
  cases he2
  have newc : New w1 (wb.setCell ⟨wa.heap.size, 0, none⟩ (.int .u8 (IntKind.u8.wrap ((2 ^ bit.toNat : Nat) : Int)))) := Mod.trans (newa.trans newb) modc fun i hi h => by have := newa.size; omega
  refine call_ (refOf_ok _ _ _ (List.replicate (n + 1) 0) _ (by simp) ((row1.new newb).mod modc ?_) (by omega)) ?_
  · intro a ha h
    have := (hA1 a ha).2.1
    omega
  rintro e w2 ⟨rfl, rfl⟩
  refine ⟨_, rfl, ?_⟩
  refine call_ (refOf_ok _ _ _ (UInt8.ofNat (2 ^ bit.toNat) :: List.replicate n 0) _ (by simp) row2 (by omega)) ?_
  rintro e w2 ⟨rfl, rfl⟩
  refine ⟨_, rfl, ?_, newc⟩
  show Ending.returned (.tuple #[.int .u32 (bits _ _ (bits _ _ _ _) _), _]) = _
  rw [bits_xor32, bits_xor32]
  unfold turned turnedNo
  rw [good, hn]
  have : Crc.on 0#32 (List.replicate (n + 1) 0) ^^^ Crc.on 0#32 (UInt8.ofNat (2 ^ bit.toNat) :: List.replicate n 0) = Crc.tn (8 * (n + 1)) (1#32 <<< bit.toNat) := by
    unfold Crc.on
    rw [not_xor_not, run_xor n _ _ _ rfl, e2]
  rw [BitVec.xor_assoc, this]
  rfl

/-! ### Right of what is sealed; what must work -/
theorem right_sealed (bs : List UInt8) : right (sealed bs) = true := by
  unfold right
  rw [sealed_length, show bs.length + 4 - 4 = bs.length by omega]
  have : (sealed bs).take bs.length = bs := by simp [sealed]
  rw [this]
  simp
theorem works_ok (w : World) (ht : tbl w) : Calls Tryd.prog 19 #[] w fun e w' => e = .returned (.bool true) ∧ New w w' := by
  refine enter ok Tryd.func19 rfl rfl rfl ?_
  refine conv_const ok rfl rfl rfl rfl rfl rfl ?_
  have n1 : New w _ := New.alloc w (.cells (bvs [49, 50, 51, 52, 53, 54, 55, 56, 57]).toArray 5 (9, 10))
  have k1 := Of1_ok _ 9 9 [49, 50, 51, 52, 53, 54, 55, 56, 57] _ (ht.new n1) rfl (row_alloc w _ _ _) (by omega)
  have s1 : ((Crc.on 0#32 [49, 50, 51, 52, 53, 54, 55, 56, 57]).toNat : Int) = 3808858755 := by kernel_rfl
  generalize Crc.on 0#32 [49, 50, 51, 52, 53, 54, 55, 56, 57] = r1 at k1 s1
  refine call_ k1 ?_
  rintro e w1 ⟨rfl, rfl⟩
  refine ⟨_, rfl, ?_⟩
  have n2 := n1.trans (New.alloc _ (.cells #[.slice (some ⟨w.heap.size, 0, none⟩) 9 9] 23))
  refine if_yes (decide_eq_true s1) ?_
  have k2 := Of_ok none 0 0 [] _ (ht.new n2) rfl (Row.nil _ _) (by simp) (by omega)
  have s2 : ((Crc.on 0#32 (([] : List Part).flatMap (·.bs))).toNat : Int) = 0 := by kernel_rfl
  generalize Crc.on 0#32 (([] : List Part).flatMap (·.bs)) = r2 at k2 s2
  refine call_ k2 ?_
  rintro e w1 ⟨rfl, rfl⟩
  refine ⟨_, rfl, ?_⟩
  refine if_yes (decide_eq_true s2) ?_
  refine conv_const ok rfl rfl rfl rfl rfl rfl ?_
  have n3 := n2.trans (New.alloc _ (.cells (bvs [97]).toArray 5 (1, 2)))
  refine call_ (Seal_ok _ 1 _ [97] _ (ht.new n3) rfl (row_alloc _ _ _ _) (by omega)) ?_
  rintro e w1 ⟨v, rfl, hown, hnew⟩
  obtain ⟨A1, c1, rfl, _, _, row1, _⟩ := own_slice hown
  have n4 := n3.trans hnew
  refine ⟨_, rfl, ?_⟩
  have k5 := Right_ok _ 5 c1 (sealed [97]) _ (ht.new n4) rfl row1 (by omega) (by assumption)
  rw [right_sealed] at k5
  refine call_ k5 ?_
  rintro e w2 ⟨rfl, h5⟩
  refine ⟨_, rfl, ?_⟩
  refine call_ (Right_ok none 0 0 [] _ (ht.new (n4.trans h5)) rfl (Row.nil _ _) (by omega) (by omega)) ?_
  rintro e w3 ⟨rfl, h6⟩
  exact ⟨_, rfl, rfl, (n4.trans h5).trans h6⟩
end Go.Proofs.YtedinhcapfhlhaaDoor.Sum
