/- The package sum, walked: each function comes to its plain mathematics. -/
import Derived.Test.YtpcoleeggeahlaaDoorTab
import Derived.Test.YtpcoleeggeahlaaDoorMem
import Derived.Test.YtpcoleeggeahlaaDoorCrc
namespace Go.Proofs.YtpcoleeggeahlaaDoor.Sum
open Go Go.Proofs.YtpcoleeggeahlaaDoor Go.Proofs.YtpcoleeggeahlaaDoor.Eng Go.Proofs
set_option maxRecDepth 10000

def nib : List (BitVec 32) := [0#32, 274646895#32, 549293790#32, 820201905#32, 1098587580#32, 1361435347#32, 1640403810#32, 1905808397#32, 2197175160#32, 2460548119#32, 2722870694#32, 2987750089#32, 3280807620#32, 3553878443#32, 3811616794#32, 4084100981#32]
def tbl (w : World) : Prop := ∀ i, i < 16 → w.cell? ⟨0, i, none⟩ = some (.int .u32 ((nib.getD i 0#32).toNat : Int))
theorem tbl.new {w w' : World} (h : tbl w) (k : New w w') : tbl w' := fun i hi => k.cell (h i hi)
theorem tbl.mod {S : Nat → Prop} {w w' : World} (h : tbl w) (k : Mod S w w') (hn : ¬ S 0) : tbl w' := fun i hi => k.cell (h i hi) hn

theorem half_math (c : Crc.W) : (nib.getD (c &&& 15#32).toNat 0#32) ^^^ (c >>> 4) = Crc.tn 4 c := by
  have hlt : (c &&& 15#32).toNat < 16 := by
    rw [BitVec.toNat_and]
    exact Nat.lt_of_le_of_lt Nat.and_le_right (by decide)
  have h1 : ∀ k : Fin 16, nib.getD k.val 0#32 = Crc.tn 4 (BitVec.ofNat 32 k.val) := by decide
  have h2 : Crc.tn 4 ((c >>> 4) <<< 4) = c >>> 4 := by
    apply Crc.tn_shl 4 _ (by decide)
    rw [BitVec.toNat_ushiftRight, Nat.shiftRight_eq_div_pow]
    have := c.isLt
    omega
  have h3 : c = (c &&& 15#32) ^^^ ((c >>> 4) <<< 4) := by
    apply BitVec.eq_of_getLsbD_eq
    intro i hi
    simp only [BitVec.getLsbD_xor, BitVec.getLsbD_and, BitVec.getLsbD_shiftLeft, BitVec.getLsbD_ushiftRight]
    by_cases h4 : i < 4
    · have : (15#32).getLsbD i = true := by
        rcases (by omega : i = 0 ∨ i = 1 ∨ i = 2 ∨ i = 3) with rfl | rfl | rfl | rfl <;> decide
      simp [h4, this]
    · have h15 : (15#32).getLsbD i = false := by
        rw [← BitVec.testBit_toNat]
        exact Nat.testBit_lt_two_pow (Nat.lt_of_lt_of_le (by decide : (15#32).toNat < 2 ^ 4) (Nat.pow_le_pow_right (by decide) (by omega)))
      have : 4 + (i - 4) = i := by omega
      rw [h15]
      simp [h4, hi, this]
  have h4 := h1 ⟨_, hlt⟩
  simp only [] at h4
  rw [h4, BitVec.ofNat_toNat, BitVec.setWidth_eq]
  conv => rhs; rw [h3, Crc.tn_xor, h2]

theorem half_ok (c : Crc.W) (w : World) (ht : tbl w) :
    Calls Tryd.prog 31 #[.int .u32 c.toNat] w fun e w' => e = .returned (.int .u32 (Crc.tn 4 c).toNat) ∧ w' = w := by
  have e15 : (15 : Int) = ((15#32).toNat : Int) := rfl
  have hlt : (c &&& 15#32).toNat < 16 := by
    rw [BitVec.toNat_and]
    exact Nat.lt_of_le_of_lt Nat.and_le_right (by decide)
  have hx : bits .and .u32 (c.toNat : Int) 15 = ((c &&& 15#32).toNat : Int) := by rw [e15, bits_and32]
  refine enter ok Tryd.func31 rfl rfl rfl ?_
  refine And.intro (by rw [hx]; omega) (And.intro (by rw [hx]; omega) (Exists.intro ((nib.getD (c &&& 15#32).toNat 0#32).toNat : Int) (And.intro ?_ (And.intro (by decide) (And.intro ?_ rfl)))))
  · rw [hx, Nat.mul_one, Int.toNat_natCast, Addr.add_lit, Nat.zero_add]
    exact ht _ hlt
  · show Ending.returned (.int .u32 (bits .xor .u32 _ (_ / 2 ^ 4))) = _
    rw [shr32, bits_xor32, half_math]

theorem On_ok (c : Crc.W) (A : Option Addr) (n cc : Nat) (bs : List UInt8) (w : World) (ht : tbl w) (hn : n = bs.length) (hr : Row w A (bvs bs)) (hm : n ≤ 140737488351232) :
    Calls Tryd.prog 29 #[.int .u32 c.toNat, .slice A n cc] w fun e w' => e = .returned (.int .u32 (Crc.on c bs).toNat) ∧ w' = w := by
  refine enter ok Tryd.func29 rfl rfl rfl ?_
  have hnot : ∀ x : Crc.W, bits .xor .u32 (if IntKind.u32.signed = true then -1 else IntKind.u32.max) (x.toNat : Int) = ((~~~x).toNat : Int) := by
    intro x
    have : (if IntKind.u32.signed = true then -1 else IntKind.u32.max) = ((BitVec.allOnes 32).toNat : Int) := by decide
    rw [this, bits_xor32, BitVec.allOnes_xor]
  refine den_loop (σ := Nat) (fun i => [(0, .int .u32 ((Crc.run (~~~c) (bs.take i)).toNat : Int)), (9, .slice A n cc), (10, .int .i64 n), (11, .int .i64 i)]) (fun m i w' => i ≤ n ∧ m = n - i ∧ w' = w) n 0 ?_ ⟨Nat.zero_le _, rfl, rfl⟩ ?_
  · refine ⟨?_, rfl, rfl, rfl, trivial⟩
    show Value.int .u32 (bits _ _ _ _) = _
    rw [hnot]
    rfl
  rintro m i w1 fr0 ⟨hi, rfl, rfl⟩
  refine if_p (fun hlt => ?_) (fun hge => ?_)
  · have hlt' : i < n := by omega
    obtain ⟨a, rfl, hc⟩ := hr.at_ i (by rw [bvs_length]; omega)
    have hb : (bvs bs)[i]'(by rw [bvs_length]; omega) = bv bs[i] := by simp [bvs]
    rw [hb] at hc
    refine And.intro (Int.natCast_nonneg i) (And.intro hlt (some_at rfl (Exists.intro _ (And.intro (by rw [Nat.mul_one, Int.toNat_natCast]; exact hc) ?_))))
    have hx : bits .xor .u32 ((Crc.run (~~~c) (bs.take i)).toNat : Int) (IntKind.u32.wrap (bs[i].toNat : Int)) = ((Crc.run (~~~c) (bs.take i) ^^^ Crc.wide bs[i]).toNat : Int) := by
      have e : IntKind.u32.wrap (bs[i].toNat : Int) = ((Crc.wide bs[i]).toNat : Int) := by
        rw [wrap_u32]
        unfold Crc.wide
        rw [BitVec.toNat_setWidth]
        have := bs[i].toBitVec.isLt
        have e2 : bs[i].toNat = bs[i].toBitVec.toNat := rfl
        omega
      rw [e, bits_xor32]
    refine call_ (by rw [hx]; exact half_ok _ _ ht) ?_
    rintro e w' ⟨rfl, rfl⟩
    refine ⟨_, rfl, ?_⟩
    refine call_ (half_ok _ _ ht) ?_
    rintro e w' ⟨rfl, rfl⟩
    refine ⟨_, rfl, ?_⟩
    refine ⟨n - (i + 1), i + 1, by omega, ⟨?_, rfl, rfl, ?_, trivial⟩, by omega, rfl, rfl⟩
    · show Value.int .u32 _ = _
      rw [List.take_succ_eq_append_getElem (by omega)]
      simp only [Crc.run, List.foldl_append, List.foldl_cons, List.foldl_nil, Crc.byte]
      rw [← Crc.tn_add 4 4]
    · show Value.int .i64 (IntKind.i64.wrap _) = _
      rw [wrap_i64 (by omega) (by omega)]
      rfl
  · have : i = n := by omega
    subst this
    refine ⟨?_, rfl⟩
    show Ending.returned (.int .u32 (bits _ _ _ _)) = _
    rw [hnot]
    subst hn
    rw [List.take_length]
    rfl
end Go.Proofs.YtpcoleeggeahlaaDoor.Sum
