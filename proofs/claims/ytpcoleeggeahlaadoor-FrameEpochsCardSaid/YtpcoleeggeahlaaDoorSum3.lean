/- The package sum and its reference, walked: Seal of the reference, Right and Turned of both. -/
import Derived.Test.YtpcoleeggeahlaaDoorSum2
namespace Go.Proofs.YtpcoleeggeahlaaDoor.Sum
open Go Go.Proofs.YtpcoleeggeahlaaDoor Go.Proofs.YtpcoleeggeahlaaDoor.Eng Go.Proofs
set_option maxRecDepth 10000

theorem refSeal_ok (A : Option Addr) (n cc : Nat) (bs : List UInt8) (w : World) (hn : n = bs.length) (hr : Row w A (bvs bs)) (hm : n ≤ 140737488351232) :
    Calls Tryd.prog 25 #[.slice A n cc] w fun e w' => ∃ v, e = .returned v ∧ w'.ownsRow w.heap.size 5 1 v (n + 4) (bvs (sealed bs)) ∧ New w w' := by
  refine enter ok Tryd.func25 rfl rfl rfl ?_
  refine call_ (refOf_ok A n cc bs w hn hr hm) ?_
  rintro e w1 ⟨rfl, rfl⟩
  refine ⟨_, rfl, ?_⟩
  refine append_ ok rfl rfl rfl rfl (own_lit _ [] 5 1 0 w1.heap.size (by simp) rfl (by omega)) rfl rfl (hr.new (New.alloc _ _)) (by rw [bvs_length, hn]; exact (Nat.mul_one _).symm) (Base.bvs_one bs) (by decide) rfl (by show (0 + n) * 1 ≤ _; omega) (by omega) (by simp) ?_
  intro A1 c1 w2 own1 mod1
  rw [Nat.zero_add] at own1
  have n2 : New w1 w2 := (Mod.trans (New.alloc _ _) mod1 fun i hi h => by simp [Value.ownBlock] at h; omega)
  refine And.intro (by decide) (And.intro (by decide) (And.intro (by decide) ?_))
  have hlit := own_lit w2 (bvs (last4 (Crc.on 0#32 bs))) 5 1 4 0 (Nat.zero_le _) rfl (by omega)
  obtain ⟨A2, c2, he2, _, _, hrow2, _⟩ := own_slice hlit
  cases he2
  refine append_ ok (n := n) rfl rfl rfl rfl (xs := bvs bs) (base := w1.heap.size) (A := some ⟨w2.heap.size, 0, none⟩) (m := 4) (c := 4) (news := bvs (last4 (Crc.on 0#32 bs))) ?_ rfl rfl ?_ rfl (Base.bvs_one _) (by decide) rfl (by show (n + 4) * 1 ≤ _; omega) (by omega) ?_ ?_
  · show World.ownsRow (w2.alloc (.cells _ _)) _ _ _ (.slice A1 (0 + n) c1) _ _
    rw [Nat.zero_add]
    exact own1.alloc _
  · rw [← last4_cells] at hrow2 ⊢
    exact hrow2
  · have := n2.size
    simp
    omega
  intro A3 c3 w3 own3 mod3
  refine ⟨_, rfl, ?_, ?_⟩
  · rw [sealed, bvs_append]
    exact own3
  · refine Mod.trans (n2.trans (New.alloc _ _)) mod3 ?_
    intro i hi h
    have := own1.lt i (by rw [Nat.zero_add] at h; exact h.symm)
    omega

/-- The sum stands behind. -/
def right (bs : List UInt8) : Bool := decide (4 ≤ bs.length) && decide (sealed (bs.take (bs.length - 4)) = bs)
theorem bvs_take (bs : List UInt8) (k : Nat) : bvs (bs.take k) = (bvs bs).take k := List.map_take ..

theorem Right_ok (A : Option Addr) (n cc : Nat) (bs : List UInt8) (w : World) (ht : tbl w) (hn : n = bs.length) (hr : Row w A (bvs bs)) (hm : n ≤ 140737488351232) (hcc : n ≤ cc) :
    Calls Tryd.prog 22 #[.slice A n cc] w fun e w' => e = .returned (.bool (right bs)) ∧ New w w' := by
  refine enter ok Tryd.func22 rfl rfl rfl ?_
  refine draw_ ok (.q 0 (.q 1 (.q 2 (.q 3 (.q 4 (.q 5 (.q 8 (.q 9 (.e 6 (.q 7 (.q 10 (.q 11 (.q 12 .done))))))))))))) [12] (New w) (by kernel_rfl) (by kernel_rfl) (by kernel_rfl) (by kernel_rfl) (by kernel_rfl) (New.drew w) ?_
  have e4 : IntKind.i64.wrap ((n : Int) - 4) = (n : Int) - 4 := wrap_i64 (by omega) (by omega)
  refine if_p (fun h => ?_) (fun h => ?_)
  · rw [e4] at h
    refine And.intro (by rw [e4]; omega) (And.intro (by rw [e4]; omega) (Exists.intro bs (And.intro hn.symm (And.intro (fun w' hw => hr.new hw) ?_))))
    have et : (IntKind.i64.wrap ((n : Int) - 4)).toNat = n - 4 := by rw [e4]; omega
    refine call_ (Seal_ok A _ cc (bs.take (n - 4)) w.drew (ht.new (New.drew w)) (by rw [et]; simp; omega) (by rw [bvs_take]; exact (hr.new (New.drew w)).take _) (by rw [et]; omega)) ?_
    rintro e w1 ⟨v, rfl, hown, hnew⟩
    obtain ⟨A1, c1, rfl, _, _, hrow, _⟩ := own_slice hown
    refine ⟨_, rfl, ?_⟩
    refine Exists.intro (fun w' => New w w' ∧ New w1 w') (And.intro (fun _ h => h.1) (And.intro ⟨(New.drew w).trans hnew, New.refl _⟩ ?_))
    refine Exists.intro (sealed (bs.take (n - 4))) (And.intro (by rw [sealed_length, et]; simp; omega) (And.intro (fun w' hw => hrow.new hw.2) ⟨?_, (New.drew w).trans hnew⟩))
    show Ending.returned (.bool (decide _)) = _
    rw [Base.same_iff]
    unfold right
    rw [← hn, decide_eq_true (show 4 ≤ n by omega)]
    rfl
  · rw [e4] at h
    refine ⟨?_, New.drew w⟩
    unfold right
    rw [← hn, decide_eq_false (show ¬ 4 ≤ n by omega)]
    rfl
/-! ### Turned -/
/-- What is turned: the sum, the answer's number. -/
def turnedBad (size at_ bit : Int) : Bool := decide (size < 1) || decide (65536 < size) || decide (at_ < 0) || decide (size ≤ at_) || decide (bit < 0) || decide (7 < bit)
def turned (c : Crc.W) (size at_ bit : Int) : Crc.W := if turnedBad size at_ bit then 0#32 else c ^^^ Crc.tn (8 * (size - at_).toNat) (1#32 <<< bit.toNat)
def turnedNo (size at_ bit : Int) : Int := if turnedBad size at_ bit then 2 else 0
theorem t1_all (x : Crc.W) : bits .xor .u32 ((x.toNat : Int) / 2 ^ 1) (IntKind.u32.wrap (bits .and .u32 (x.toNat : Int) 1 * 2197175160)) = ((Crc.t1 x).toNat : Int) := by
  have e1 : (1 : Int) = ((1#32).toNat : Int) := rfl
  rw [shr32]
  conv => lhs; rw [e1, bits_and32]
  have hb : ((x &&& 1#32).toNat : Int) = if x.getLsbD 0 then 1 else 0 := by
    rw [BitVec.toNat_and, ← BitVec.testBit_toNat, Nat.testBit_zero]
    show ((x.toNat &&& 1 : Nat) : Int) = _
    rw [Nat.and_one_is_mod]
    by_cases h : x.toNat % 2 = 1 <;> simp [h]
    omega
  rw [hb]
  unfold Crc.t1
  cases x.getLsbD 0
  · show bits .xor .u32 _ 0 = _
    rw [show (0 : Int) = ((0#32).toNat : Int) from rfl, bits_xor32]
    simp
  · show bits .xor .u32 _ ((Crc.poly).toNat : Int) = _
    rw [bits_xor32]
    rfl
theorem one_shl (bit : Int) (h0 : 0 ≤ bit) (h7 : bit ≤ 7) : IntKind.u32.wrap (1 * 2 ^ min bit.toNat IntKind.u32.bits) = ((1#32 <<< bit.toNat).toNat : Int) := by
  have : bit = 0 ∨ bit = 1 ∨ bit = 2 ∨ bit = 3 ∨ bit = 4 ∨ bit = 5 ∨ bit = 6 ∨ bit = 7 := by omega
  rcases this with rfl | rfl | rfl | rfl | rfl | rfl | rfl | rfl <;> decide

end Go.Proofs.YtpcoleeggeahlaaDoor.Sum
