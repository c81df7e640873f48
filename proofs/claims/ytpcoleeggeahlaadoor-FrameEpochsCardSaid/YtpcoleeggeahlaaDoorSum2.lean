/- The package sum and its reference, walked: Of, Seal, Right of both. -/
import Derived.Test.YtpcoleeggeahlaaDoorSum
import Derived.Test.YtpcoleeggeahlaaDoorBase
import Derived.Test.YtpcoleeggeahlaaDoorDraw
namespace Go.Proofs.YtpcoleeggeahlaaDoor.Sum
open Go Go.Proofs.YtpcoleeggeahlaaDoor Go.Proofs.YtpcoleeggeahlaaDoor.Eng Go.Proofs
set_option maxRecDepth 10000

theorem getLsbD0 (c : Crc.W) : c.getLsbD 0 = decide ((c.toNat : Int).tmod 2 = 1) := by
  rw [← BitVec.testBit_toNat, Nat.testBit_zero]
  rw [Int.tmod_eq_emod_of_nonneg (by omega)]
  by_cases h : c.toNat % 2 = 1
  · rw [decide_eq_true h, decide_eq_true (by omega)]
  · rw [decide_eq_false h, decide_eq_false (by omega)]
theorem half_int (c : Crc.W) : IntKind.u32.wrap ((c.toNat : Int).tdiv 2) = ((c >>> 1).toNat : Int) := by
  rw [Int.tdiv_eq_ediv_of_nonneg (by omega)]
  have := shr32 c 1
  rw [Int.pow_one] at this
  rw [this, wrap_bv32]
theorem t1_yes (c : Crc.W) (h : (c.toNat : Int).tmod 2 = 1) : bits .xor .u32 (IntKind.u32.wrap ((c.toNat : Int).tdiv 2)) 2197175160 = ((Crc.t1 c).toNat : Int) := by
  have e : (2197175160 : Int) = ((Crc.poly).toNat : Int) := by decide
  rw [half_int, e, bits_xor32]
  unfold Crc.t1
  rw [getLsbD0, decide_eq_true h, if_pos rfl]
theorem t1_no (c : Crc.W) (h : ¬ (c.toNat : Int).tmod 2 = 1) : IntKind.u32.wrap ((c.toNat : Int).tdiv 2) = ((Crc.t1 c).toNat : Int) := by
  rw [half_int]
  unfold Crc.t1
  rw [getLsbD0, decide_eq_false h, if_neg (by simp)]
theorem u32_byte (b : UInt8) : IntKind.u32.wrap (b.toNat : Int) = ((Crc.wide b).toNat : Int) := by
  rw [wrap_u32]
  unfold Crc.wide
  rw [BitVec.toNat_setWidth]
  have := b.toBitVec.isLt
  have e2 : b.toNat = b.toBitVec.toNat := rfl
  omega
theorem xor_ones (x : Crc.W) : bits .xor .u32 (x.toNat : Int) 4294967295 = ((~~~x).toNat : Int) := by
  have : (4294967295 : Int) = ((BitVec.allOnes 32).toNat : Int) := by decide
  rw [this, bits_xor32, BitVec.xor_comm, BitVec.allOnes_xor]
theorem tn_succ' (k : Nat) (c : Crc.W) : Crc.tn (k + 1) c = Crc.t1 (Crc.tn k c) := by
  rw [Crc.tn_add]; rfl

theorem refOn_ok (c : Crc.W) (A : Option Addr) (n cc : Nat) (bs : List UInt8) (w : World) (hn : n = bs.length) (hr : Row w A (bvs bs)) (hm : n ≤ 140737488351232) :
    Calls Tryd.prog 30 #[.int .u32 c.toNat, .slice A n cc] w fun e w' => e = .returned (.int .u32 (Crc.on c bs).toNat) ∧ w' = w := by
  refine enter ok Tryd.func30 rfl rfl rfl ?_
  refine den_loop (σ := Nat) (fun i => [(0, .int .u32 ((Crc.run (~~~c) (bs.take i)).toNat : Int)), (1, .slice A n cc), (5, .int .i64 i)]) (fun m i w' => i ≤ n ∧ m = n - i ∧ w' = w) n 0 ?_ ⟨Nat.zero_le _, rfl, rfl⟩ ?_
  · refine ⟨?_, rfl, rfl, trivial⟩
    show Value.int .u32 (bits _ _ _ _) = _
    rw [xor_ones]
    rfl
  rintro m i w1 fr0 ⟨hi, rfl, rfl⟩
  refine if_p (fun hlt => ?_) (fun hge => ?_)
  · have hlt' : i < n := by omega
    obtain ⟨a, rfl, hc⟩ := hr.at_ i (by rw [bvs_length]; omega)
    have hb : (bvs bs)[i]'(by rw [bvs_length]; omega) = bv bs[i] := by simp [bvs]
    rw [hb] at hc
    refine And.intro (Int.natCast_nonneg i) (And.intro hlt (some_at rfl (Exists.intro _ (And.intro (by rw [Nat.mul_one, Int.toNat_natCast]; exact hc) ?_))))
    refine den_loop (σ := Nat) (fun k => [(0, .int .u32 ((Crc.tn k (Crc.run (~~~c) (bs.take i) ^^^ Crc.wide bs[i])).toNat : Int)), (1, .slice (some a) n cc), (5, .int .i64 i), (6, .int .i64 k)]) (fun m k w' => k ≤ 8 ∧ m = 8 - k ∧ w' = w1) 8 0 ?_ ⟨Nat.zero_le _, rfl, rfl⟩ ?_
    · refine ⟨?_, rfl, rfl, rfl, trivial⟩
      show Value.int .u32 (bits _ _ _ _) = _
      rw [u32_byte, bits_xor32]
      rfl
    rintro m k w1 fr0 ⟨hk, rfl, rfl⟩
    refine if_p (fun hk8 => ?_) (fun hk8 => ?_)
    · refine And.intro (by decide) (if_p (fun h1 => ?_) (fun h1 => ?_))
      · refine And.intro (by decide) ⟨8 - (k + 1), k + 1, by omega, ⟨?_, rfl, rfl, ?_, trivial⟩, by omega, rfl, rfl⟩
        · show Value.int .u32 (bits _ _ _ _) = _
          rw [t1_yes _ h1, tn_succ']
        · show Value.int .i64 (IntKind.i64.wrap _) = _
          rw [wrap_i64 (by omega) (by omega)]
          rfl
      · refine And.intro (by decide) ⟨8 - (k + 1), k + 1, by omega, ⟨?_, rfl, rfl, ?_, trivial⟩, by omega, rfl, rfl⟩
        · show Value.int .u32 (IntKind.wrap _ _) = _
          rw [t1_no _ h1, tn_succ']
        · show Value.int .i64 (IntKind.i64.wrap _) = _
          rw [wrap_i64 (by omega) (by omega)]
          rfl
    · have : k = 8 := by omega
      subst this
      refine ⟨n - (i + 1), i + 1, by omega, ⟨?_, rfl, ?_, trivial⟩, by omega, rfl, rfl⟩
      · show Value.int .u32 _ = _
        rw [List.take_succ_eq_append_getElem (by omega)]
        simp only [Crc.run, List.foldl_append, List.foldl_cons, List.foldl_nil, Crc.byte]
      · show Value.int .i64 (IntKind.i64.wrap _) = _
        rw [wrap_i64 (by omega) (by omega)]
        rfl
  · have : i = n := by omega
    subst this
    refine ⟨?_, rfl⟩
    show Ending.returned (.int .u32 (bits _ _ _ _)) = _
    rw [xor_ones]
    subst hn
    rw [List.take_length]
    rfl

theorem refOf_ok (A : Option Addr) (n cc : Nat) (bs : List UInt8) (w : World) (hn : n = bs.length) (hr : Row w A (bvs bs)) (hm : n ≤ 140737488351232) :
    Calls Tryd.prog 28 #[.slice A n cc] w fun e w' => e = .returned (.int .u32 (Crc.on 0#32 bs).toNat) ∧ w' = w := by
  refine enter ok Tryd.func28 rfl rfl rfl ?_
  refine call_ (refOn_ok 0#32 A n cc bs w hn hr hm) ?_
  rintro e w' ⟨rfl, rfl⟩
  exact ⟨_, rfl, rfl, rfl⟩

/-- A part of those that are summed. -/
structure Part where
  A : Option Addr
  c : Nat
  bs : List UInt8
def Part.val (p : Part) : Value := .slice p.A p.bs.length p.c
theorem on_append (c : Crc.W) (a b : List UInt8) : Crc.on (Crc.on c a) b = Crc.on c (a ++ b) := by
  unfold Crc.on Crc.run
  rw [BitVec.not_not, List.foldl_append]
theorem on_nil (c : Crc.W) : Crc.on c [] = c := by
  unfold Crc.on Crc.run
  simp

theorem Of_ok (A : Option Addr) (n cc : Nat) (ps : List Part) (w : World) (ht : tbl w) (hn : n = ps.length) (hr : Row w A (ps.map Part.val)) (hp : ∀ p ∈ ps, Row w p.A (bvs p.bs) ∧ p.bs.length ≤ 140737488351232) (hm : n ≤ 140737488351232) :
    Calls Tryd.prog 26 #[.slice A n cc] w fun e w' => e = .returned (.int .u32 (Crc.on 0#32 (ps.flatMap (·.bs))).toNat) ∧ w' = w := by
  refine enter ok Tryd.func26 rfl rfl rfl ?_
  refine den_loop (σ := Nat) (fun i => [(3, .int .u32 ((Crc.on 0#32 ((ps.take i).flatMap (·.bs))).toNat : Int)), (6, .slice A n cc), (7, .int .i64 n), (8, .int .i64 i)]) (fun m i w' => i ≤ n ∧ m = n - i ∧ w' = w) n 0 ?_ ⟨Nat.zero_le _, rfl, rfl⟩ ?_
  · refine ⟨?_, rfl, rfl, rfl, trivial⟩
    rw [List.take_zero]
    rfl
  rintro m i w1 fr0 ⟨hi, rfl, rfl⟩
  refine if_p (fun hlt => ?_) (fun hge => ?_)
  · have hlt' : i < n := by omega
    obtain ⟨a, rfl, hc⟩ := hr.at_ i (by simp; omega)
    have hb : (ps.map Part.val)[i]'(by simp; omega) = (ps[i]).val := by simp
    rw [hb] at hc
    refine And.intro (Int.natCast_nonneg i) (And.intro hlt (some_at rfl (Exists.intro _ (Exists.intro _ (Exists.intro _ (And.intro (by rw [Nat.mul_one, Int.toNat_natCast]; exact hc) ?_))))))
    obtain ⟨hp1, hp2⟩ := hp _ (List.getElem_mem (show i < ps.length by omega))
    refine call_ (On_ok _ _ _ _ (ps[i]).bs _ ht rfl hp1 hp2) ?_
    rintro e w' ⟨rfl, rfl⟩
    refine ⟨_, rfl, ⟨n - (i + 1), i + 1, by omega, ⟨?_, rfl, rfl, ?_, trivial⟩, by omega, rfl, rfl⟩⟩
    · show Value.int .u32 _ = _
      have e : (ps.take (i + 1)).flatMap (·.bs) = (ps.take i).flatMap (·.bs) ++ (ps[i]).bs := by
        rw [List.take_succ_eq_append_getElem (show i < ps.length by omega), List.flatMap_append]
        simp
      rw [on_append, ← e]
    · show Value.int .i64 (IntKind.i64.wrap _) = _
      rw [wrap_i64 (by omega) (by omega)]
      rfl
  · have : i = n := by omega
    subst this
    refine ⟨?_, rfl⟩
    subst hn
    rw [List.take_length]
    rfl
/-- Of one part. -/
theorem Of1_ok (A : Option Addr) (n c : Nat) (bs : List UInt8) (w : World) (ht : tbl w) (hn : n = bs.length) (hr : Row w A (bvs bs)) (hm : n ≤ 140737488351232) :
    Calls Tryd.prog 26 #[.slice (some ⟨w.heap.size, 0, none⟩) 1 1] (w.alloc (.cells #[.slice A n c] 25)) fun e w' => e = .returned (.int .u32 (Crc.on 0#32 bs).toNat) ∧ w' = w.alloc (.cells #[.slice A n c] 25) := by
  subst hn
  have hnew := New.alloc w (.cells #[.slice A bs.length c] 25)
  refine (Of_ok _ 1 1 [⟨A, c, bs⟩] _ (ht.new hnew) rfl ?_ ?_ (by omega)).mono ?_
  · have := (own_slice (own_lit w [.slice A bs.length c] 25 1 1 0 (Nat.zero_le _) rfl (by omega)))
    obtain ⟨A', c', he, _, _, hrow, _⟩ := this
    cases he
    exact hrow
  · intro p hp
    simp only [List.mem_singleton] at hp
    subst hp
    exact ⟨hr.new hnew, hm⟩
  · rintro e w' ⟨rfl, rfl⟩
    simp

/-! ### Seal and Right -/
def last4 (c : Crc.W) : List UInt8 := [UInt8.ofNat (c.toNat / 2 ^ 24), UInt8.ofNat (c.toNat / 2 ^ 16), UInt8.ofNat (c.toNat / 2 ^ 8), UInt8.ofNat c.toNat]
def sealed (bs : List UInt8) : List UInt8 := bs ++ last4 (Crc.on 0#32 bs)
theorem u8_part (c : Crc.W) (k : Nat) : IntKind.u8.wrap ((c.toNat : Int) / 2 ^ k) = ((UInt8.ofNat (c.toNat / 2 ^ k)).toNat : Int) := by
  rw [wrap_u8, UInt8.toNat_ofNat']
  have e : (c.toNat : Int) / 2 ^ k = ((c.toNat / 2 ^ k : Nat) : Int) := by simp
  rw [e]
  omega
theorem u8_low (c : Crc.W) : IntKind.u8.wrap (c.toNat : Int) = ((UInt8.ofNat c.toNat).toNat : Int) := by
  rw [wrap_u8, UInt8.toNat_ofNat']
  omega
theorem last4_cells (c : Crc.W) : [Value.int .u8 (IntKind.u8.wrap ((c.toNat : Int) / 2 ^ 24)), .int .u8 (IntKind.u8.wrap ((c.toNat : Int) / 2 ^ 16)), .int .u8 (IntKind.u8.wrap ((c.toNat : Int) / 2 ^ 8)), .int .u8 (IntKind.u8.wrap (c.toNat : Int))] = bvs (last4 c) := by
  rw [u8_part, u8_part, u8_part, u8_low]
  rfl
theorem sealed_length (bs : List UInt8) : (sealed bs).length = bs.length + 4 := by simp [sealed, last4]
theorem bvs_append (a b : List UInt8) : bvs (a ++ b) = bvs a ++ bvs b := List.map_append ..

theorem Seal_ok (A : Option Addr) (n cc : Nat) (bs : List UInt8) (w : World) (ht : tbl w) (hn : n = bs.length) (hr : Row w A (bvs bs)) (hm : n ≤ 140737488351232) :
    Calls Tryd.prog 19 #[.slice A n cc] w fun e w' => ∃ v, e = .returned v ∧ w'.ownsRow w.heap.size 5 1 v (n + 4) (bvs (sealed bs)) ∧ New w w' := by
  refine enter ok Tryd.func19 rfl rfl rfl ?_
  refine call_ (Of1_ok A n cc bs w ht hn hr hm) ?_
  rintro e w1 ⟨rfl, rfl⟩
  refine ⟨_, rfl, ?_⟩
  have n1 : New w (w.alloc (.cells #[.slice A n cc] 25)) := New.alloc _ _
  refine append_ ok rfl rfl rfl rfl (own_lit _ [] 5 1 0 w.heap.size (by simp) rfl (by omega)) rfl rfl (hr.new (n1.trans (New.alloc _ _))) (by rw [bvs_length, hn]; exact (Nat.mul_one _).symm) (Base.bvs_one bs) (by decide) rfl (by show (0 + n) * 1 ≤ _; omega) (by omega) (by simp; omega) ?_
  intro A1 c1 w1 own1 mod1
  rw [Nat.zero_add] at own1
  have n2 : New w w1 := (Mod.trans (n1.trans (New.alloc _ _)) mod1 fun i hi h => by simp [Value.ownBlock] at h; omega)
  refine And.intro (by decide) (And.intro (by decide) (And.intro (by decide) ?_))
  have hlit := own_lit w1 (bvs (last4 (Crc.on 0#32 bs))) 5 1 4 0 (Nat.zero_le _) rfl (by omega)
  obtain ⟨A2, c2, he2, _, _, hrow2, _⟩ := own_slice hlit
  cases he2
  refine append_ ok (n := n) rfl rfl rfl rfl (xs := bvs bs) (base := w.heap.size) (A := some ⟨w1.heap.size, 0, none⟩) (m := 4) (c := 4) (news := bvs (last4 (Crc.on 0#32 bs))) ?_ rfl rfl ?_ rfl (Base.bvs_one _) (by decide) rfl (by show (n + 4) * 1 ≤ _; omega) (by omega) ?_ ?_
  · show World.ownsRow (w1.alloc (.cells _ _)) _ _ _ (.slice A1 (0 + n) c1) _ _
    rw [Nat.zero_add]
    exact own1.alloc _
  · rw [← last4_cells] at hrow2 ⊢
    exact hrow2
  · have := n2.size
    simp
    omega
  intro A3 c3 w3 own3 mod3
  refine ⟨_, rfl, ?_, ?_⟩
  · rw [sealed, bvs_append]
    exact own3
  · refine Mod.trans (n2.trans (New.alloc _ _)) mod3 ?_
    intro i hi h
    have := own1.lt i (by rw [Nat.zero_add] at h; exact h.symm)
    omega
end Go.Proofs.YtpcoleeggeahlaaDoor.Sum
