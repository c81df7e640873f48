/- The statement SumTurns, walked. -/
import Derived.Test.YtedinhcapfhlhaaDoorLawBreaks
namespace Go.Proofs.YtedinhcapfhlhaaDoor.Sum
open Go Go.Proofs.YtedinhcapfhlhaaDoor Go.Proofs.YtedinhcapfhlhaaDoor.Eng Go.Proofs
set_option maxRecDepth 10000

theorem turned_turnBit (b : List UInt8) (k j : Int) (hk0 : 0 ≤ k) (hk : k < b.length) (hj0 : 0 ≤ j) (hj : j < 8) (hb : (b.length : Int) ≤ 65536) :
    turned (Crc.on 0#32 b) b.length k j = Crc.on 0#32 (turnBit b k.toNat j.toNat) ∧ turnedNo b.length k j = 0 := by
  have good : turnedBad b.length k j = false := by
    have h1 : ¬ ((b.length : Int) < 1) := by omega
    have h2 : ¬ ((65536 : Int) < b.length) := by omega
    have h3 : ¬ k < 0 := by omega
    have h4 : ¬ (b.length : Int) ≤ k := by omega
    have h5 : ¬ j < 0 := by omega
    have h6 : ¬ 7 < j := by omega
    simp [turnedBad, h1, h2, h3, h4, h5, h6]
  have hk' : k.toNat < b.length := by omega
  unfold turned turnedNo
  rw [good]
  refine ⟨?_, rfl⟩
  show Crc.on 0#32 b ^^^ _ = _
  unfold turnBit
  rw [set_at hk', Crc.on_turn, ← split_at hk', (two_pow_byte j hj0 (by omega)).2]
  congr 3
  rw [List.length_drop]
  omega

theorem SumTurns_ok (A : Option Addr) (n cc : Nat) (bs : List UInt8) (at_ bit : Int) (c : Crc.W) (size : Int) (w : World) (ht : tbl w) (hn : n = bs.length) (hr : Row w A (bvs bs)) (hcc : n ≤ cc) :
    Calls Tryd.prog 8 #[.slice A n cc, .int .i64 at_, .int .i64 bit, .int .u32 c.toNat, .int .i64 size] w fun e w' => e = .returned (.bool true) ∧ New w w' := by
  refine enter ok Tryd.func8 rfl rfl rfl ?_
  refine seq_assign ?_
  refine seq_cut (σ := Unit) (fun _ => [(0, .slice A (min n 2000) cc), (1, .int .i64 at_), (2, .int .i64 bit), (3, .int .u32 (c.toNat : Int)), (4, .int .i64 size)]) (fun _ w' => w' = w) ?_ ?_
  rotate_left
  · intro K hK
    refine if_p (fun h => ?_) (fun h => ?_)
    · refine And.intro (by decide) (And.intro (by show (2000 : Int) ≤ (cc : Int); omega) (hK () _ _ ⟨cut_val (N := 2000) (by omega), rfl, rfl, rfl, rfl, trivial⟩ rfl))
    · refine hK () _ _ ⟨?_, rfl, rfl, rfl, rfl, trivial⟩ rfl
      show Value.slice _ _ _ = _
      rw [Nat.min_eq_left (by omega)]
  rintro s w1 fr0 rfl
  generalize hb : bs.take 2000 = b
  have hn' : min n 2000 = b.length := by rw [← hb, List.length_take, Nat.min_comm]; omega
  have hr' : Row w1 A (bvs b) := by rw [← hb, bvs_take]; exact hr.take _
  have hm : min n 2000 ≤ 2000 := by omega
  generalize min n 2000 = m at hn' hm
  refine call_ (Turned_ok c _ at_ bit w1) ?_
  rintro e w' ⟨rfl, rfl⟩
  refine ⟨_, rfl, ?_⟩
  refine call_ (refTurned_ok c _ at_ bit w') ?_
  rintro e w2 ⟨rfl, h2⟩
  refine ⟨_, rfl, ?_⟩
  refine if_no (by simp) (if_no (by simp) ?_)
  refine if_p (fun h0 => ?_) (fun h0 => ?_)
  · refine if_yes (decide_eq_true h0) (if_yes (decide_eq_true rfl) (if_yes (decide_eq_true rfl) ?_))
    refine call_ (works_ok _ (ht.new h2)) ?_
    rintro e w3 ⟨rfl, h3⟩
    exact ⟨_, rfl, rfl, h2.trans h3⟩
  refine call_ (Base.Among_ok at_ (m : Int) w2 (by omega)) ?_
  rintro e w3 ⟨rfl, rfl⟩
  obtain ⟨k0, k1⟩ := Base.among_lt (x := at_) (n := (m : Int)) (by omega)
  refine ⟨_, rfl, ?_⟩
  refine call_ (Base.Among_ok bit 8 w3 (by omega)) ?_
  rintro e w3 ⟨rfl, rfl⟩
  obtain ⟨j0, j1⟩ := Base.among_lt (x := bit) (n := 8) (by omega)
  refine ⟨_, rfl, ?_⟩
  generalize Base.among at_ (m : Int) = k at k0 k1
  generalize Base.among bit 8 = j at j0 j1
  refine call_ (Of1_ok A m _ b w3 (ht.new h2) hn' (hr'.new h2) (by omega)) ?_
  rintro e w4 ⟨rfl, rfl⟩
  have h4 := h2.trans (New.alloc w3 (.cells #[.slice A m cc] 23))
  refine ⟨_, rfl, ?_⟩
  refine call_ (Turned_ok (Crc.on 0#32 b) (m : Int) k j _) ?_
  rintro e w5 ⟨rfl, rfl⟩
  refine ⟨_, rfl, ?_⟩
  obtain ⟨t1, t2⟩ := turned_turnBit b k j k0 (by omega) j0 j1 (by omega)
  rw [← hn'] at t1 t2
  refine call_ (Base.Bytes_ok A _ _ b _ hn' (hr'.new h4) (by omega)) ?_
  rintro e w6 ⟨v, rfl, hown, h6⟩
  obtain ⟨g, c6, rfl, hg1, hg2, hc6, _⟩ := own_pos hown (by omega)
  refine ⟨_, rfl, ?_⟩
  have hk : k.toNat < (bvs b).length := by rw [bvs_length]; omega
  obtain ⟨hc, hf, hst⟩ := own_store hown k.toNat hk
  have hb' : (bvs b)[k.toNat] = bv (b.getD k.toNat 0) := by
    rw [bvs_length] at hk
    simp [bvs, List.getD_eq_getElem?_getD, List.getElem?_eq_getElem hk]
  rw [hb'] at hc
  have e0 : (⟨g, 0, none⟩ : Addr).add (k.toNat * 1) = ⟨g, k.toNat, none⟩ := by rw [Nat.mul_one, Addr.add_lit, Nat.zero_add]
  have e64 : IntKind.u64.wrap j = j := by rw [Base.wrap_u64_]; omega
  refine And.intro k0 (And.intro (by omega) (some_at rfl (Exists.intro _ (And.intro (by rw [e0]; exact hc) (And.intro (by rw [e64]; exact j0) (And.intro k0 (And.intro (by omega) (some_at rfl (And.intro ⟨_, by rw [e0]; exact hc⟩ (And.intro (by rw [e0]; exact hf) ?_))))))))))
  obtain ⟨own7, mod7⟩ := hst (bv ((b.getD k.toNat 0) ^^^ UInt8.ofNat (2 ^ j.toNat)))
  rw [bvs_set] at own7
  obtain ⟨_, _, he7, _, _, row7, _⟩ := own_slice own7
  cases he7
  have h7 : New w' (w6.setCell ⟨g, k.toNat, none⟩ (bv ((b.getD k.toNat 0) ^^^ UInt8.ofNat (2 ^ j.toNat)))) :=
    Mod.trans (h4.trans h6) mod7 fun i hi h => by have := h4.size; omega
  have ev : Value.int .u8 (bits .xor .u8 ((b.getD k.toNat 0).toNat : Int) (IntKind.u8.wrap (1 * 2 ^ min (IntKind.u64.wrap j).toNat IntKind.u8.bits))) = bv ((b.getD k.toNat 0) ^^^ UInt8.ofNat (2 ^ j.toNat)) := turn_cell _ j j0 j1
  refine if_yes (decide_eq_true t2) ?_
  have k8 := Of1_ok _ m c6 (turnBit b k.toNat j.toNat) _ (ht.new h7) (by simp [turnBit]; exact hn') row7 (by omega)
  rw [← ev, ← e0] at k8 h7
  refine call_ k8 ?_
  rintro e w8 ⟨rfl, rfl⟩
  have h8 := h7.trans (New.alloc _ (.cells #[.slice (some ⟨g, 0, none⟩) m c6] 23))
  refine ⟨_, rfl, ?_⟩
  refine if_yes (decide_eq_true (by rw [t1])) ?_
  refine call_ (works_ok _ (ht.new h8)) ?_
  rintro e w9 ⟨rfl, h9⟩
  exact ⟨_, rfl, rfl, h8.trans h9⟩
end Go.Proofs.YtedinhcapfhlhaaDoor.Sum
