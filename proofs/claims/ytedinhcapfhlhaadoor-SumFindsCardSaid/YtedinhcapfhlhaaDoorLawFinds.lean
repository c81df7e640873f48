/- The statement SumFinds, walked. -/
import Derived.Test.YtedinhcapfhlhaaDoorLawTurns
namespace Go.Proofs.YtedinhcapfhlhaaDoor.Sum
open Go Go.Proofs.YtedinhcapfhlhaaDoor Go.Proofs.YtedinhcapfhlhaaDoor.Eng Go.Proofs
set_option maxRecDepth 10000

/-- The first i of the four places turned. -/
def cur (b xs : List UInt8) (k : Nat) : Nat → List UInt8
  | 0 => b
  | i + 1 => (cur b xs k i).set (k + i) ((cur b xs k i).getD (k + i) 0 ^^^ xs.getD i 0)
theorem cur_length (b xs : List UInt8) (k : Nat) : ∀ i, (cur b xs k i).length = b.length
  | 0 => rfl
  | i + 1 => by simp only [cur, List.length_set]; exact cur_length b xs k i
theorem set_window (p m q : List UInt8) (i : Nat) (v : UInt8) (hi : i < m.length) : (p ++ m ++ q).set (p.length + i) v = p ++ m.set i v ++ q := by
  rw [List.append_assoc, List.set_append_right _ _ (by omega), show p.length + i - p.length = i by omega, List.set_append_left _ _ hi, List.append_assoc]
theorem cur_window (b xs : List UInt8) (k : Nat) (hk : k + 4 ≤ b.length) : ∀ i, i ≤ 4 → ∃ m, m.length = 4 ∧ cur b xs k i = b.take k ++ m ++ b.drop (k + 4)
  | 0, _ => by
    refine ⟨(b.drop k).take 4, by simp; omega, ?_⟩
    show b = _
    rw [List.append_assoc, show b.drop (k + 4) = (b.drop k).drop 4 by rw [List.drop_drop], List.take_append_drop, List.take_append_drop]
  | i + 1, hi => by
    obtain ⟨m, hm, e⟩ := cur_window b xs k hk i (by omega)
    refine ⟨m.set i ((cur b xs k i).getD (k + i) 0 ^^^ xs.getD i 0), by simp [hm], ?_⟩
    have hp : (b.take k).length = k := by simp; omega
    show (cur b xs k i).set (k + i) _ = _
    generalize (cur b xs k i).getD (k + i) 0 ^^^ xs.getD i 0 = v
    rw [e]
    conv => lhs; rw [← hp]
    rw [hp]
    have := set_window (b.take k) m (b.drop (k + 4)) i v (by omega)
    rw [hp] at this
    exact this
theorem finds (b xs : List UInt8) (k : Nat) (hk : k + 4 ≤ b.length) : decide (decide (b = cur b xs k 4) = decide (((Crc.on 0#32 b).toNat : Int) = ((Crc.on 0#32 (cur b xs k 4)).toNat : Int))) = true := by
  apply decide_eq_true
  by_cases h : b = cur b xs k 4
  · rw [← h, decide_eq_true rfl, decide_eq_true rfl]
  · rw [decide_eq_false h, decide_eq_false]
    intro e
    apply h
    have e' : Crc.on 0#32 b = Crc.on 0#32 (cur b xs k 4) := BitVec.eq_of_toNat_eq (by omega)
    obtain ⟨m, hm, e0⟩ := cur_window b xs k hk 0 (by omega)
    obtain ⟨m', hm', e4⟩ := cur_window b xs k hk 4 (by omega)
    have e0 : b = b.take k ++ m ++ b.drop (k + 4) := e0
    rw [e4] at e' ⊢
    conv at e' => lhs; rw [e0]
    conv => lhs; rw [e0]
    rw [Crc.on_four hm hm' e']
theorem xor_cell (x y : UInt8) : Value.int .u8 (bits .xor .u8 (x.toNat : Int) (y.toNat : Int)) = bv (x ^^^ y) := congrArg (Value.int .u8) (bits_xor8 x.toBitVec y.toBitVec)

theorem SumFinds_ok (A : Option Addr) (n cc : Nat) (bs : List UInt8) (at_ : Int) (x0 x1 x2 x3 : UInt8) (w : World) (ht : tbl w) (hn : n = bs.length) (hr : Row w A (bvs bs)) (hcc : n ≤ cc) :
    Calls Tryd.prog 6 #[.slice A n cc, .int .i64 at_, .agg #[bv x0, bv x1, bv x2, bv x3]] w fun e w' => e = .returned (.bool true) ∧ New w w' := by
  refine enter ok Tryd.func6 rfl rfl rfl ?_
  have h0 : New w (w.alloc (.cells (bvs [x0, x1, x2, x3]).toArray 36)) := New.alloc _ _
  refine call_ (works_ok' (w.alloc (.cells (bvs [x0, x1, x2, x3]).toArray 36)) (ht.new h0)) ?_
  rintro e w1 ⟨b0, hb0, rfl, h1⟩
  refine ⟨_, rfl, ?_⟩
  refine if_no (by rw [hb0]; rfl) ?_
  have hxs : Row w1 (some ⟨w.heap.size, 0, none⟩) (bvs [x0, x1, x2, x3]) := (row_alloc w _ _ _).new h1
  have h1 := h0.trans h1
  refine seq_cut (σ := Unit) (fun _ => [(0, .slice A (min n 2000) cc), (1, .int .i64 at_), (5, .pointer (some ⟨w.heap.size, 0, none⟩))]) (fun _ w' => w' = w1) ?_ ?_
  rotate_left
  · intro K hK
    refine if_p (fun h => ?_) (fun h => ?_)
    · refine And.intro (by decide) (And.intro (by show (2000 : Int) ≤ (cc : Int); omega) (hK () _ _ ⟨cut_val (N := 2000) (by omega), rfl, rfl, trivial⟩ rfl))
    · refine hK () _ _ ⟨?_, rfl, rfl, trivial⟩ rfl
      show Value.slice _ _ _ = _
      rw [Nat.min_eq_left (by omega)]
  rintro s w1 fr0 rfl
  generalize hb : bs.take 2000 = b
  have hn' : min n 2000 = b.length := by rw [← hb, List.length_take, Nat.min_comm]; omega
  have hr' : Row w1 A (bvs b) := by rw [← hb, bvs_take]; exact (hr.new h1).take _
  have hm : min n 2000 ≤ 2000 := by omega
  generalize min n 2000 = m at hn' hm
  refine if_p (fun h => ⟨rfl, h1⟩) (fun h4 => ?_)
  have e3 : IntKind.i64.wrap ((m : Int) - 3) = (m : Int) - 3 := wrap_i64 (by omega) (by omega)
  refine call_ (Base.Among_ok at_ (IntKind.i64.wrap ((m : Int) - 3)) w1 (by omega)) ?_
  rintro e w2 ⟨rfl, rfl⟩
  rw [e3]
  obtain ⟨k0, k1⟩ := Base.among_lt (x := at_) (n := (m : Int) - 3) (by omega)
  refine ⟨_, rfl, ?_⟩
  generalize Base.among at_ ((m : Int) - 3) = k at k0 k1
  obtain ⟨k, rfl⟩ : ∃ k' : Nat, k = k' := ⟨k.toNat, by omega⟩
  refine call_ (Base.Bytes_ok A _ _ b w2 hn' hr' (by omega)) ?_
  rintro e w3 ⟨v, rfl, hown, h3⟩
  obtain ⟨g, c3, rfl, hg1, hg2, hc3, _⟩ := own_pos hown (by omega)
  refine ⟨_, rfl, ?_⟩
  have h13 := h1.trans h3
  refine den_loop (σ := Nat) (fun i => [(0, .slice A m cc), (5, .pointer (some ⟨w.heap.size, 0, none⟩)), (7, .int .i64 k), (8, .slice (some ⟨g, 0, none⟩) m c3), (9, .int .i64 i)])
    (fun q i w' => i ≤ 4 ∧ q = 4 - i ∧ w'.ownsRow w2.heap.size 5 1 (.slice (some ⟨g, 0, none⟩) m c3) m (bvs (cur b [x0, x1, x2, x3] k i)) ∧ New w2 w') 4 0 ⟨rfl, rfl, rfl, rfl, rfl, trivial⟩ ⟨by omega, rfl, hown, h3⟩ ?_
  rintro q i wl fr0 ⟨hi, rfl, hown, hl⟩
  refine if_p (fun hlt => ?_) (fun hge => ?_)
  · refine draw_ ok (.q 0 (.q 1 (.q 2 (.q 3 (.q 4 (.q 5 (.q 6 (.q 7 (.q 8 (.q 9 (.q 10 (.q 11 (.q 12 (.q 13 (.q 14 (.e 15 .done)))))))))))))))) [15] (New wl) (by kernel_rfl) (by kernel_rfl) (by kernel_rfl) (by kernel_rfl) (by kernel_rfl) (New.drew wl) ?_
    have ek : IntKind.i64.wrap ((k : Int) + i) = ((k + i : Nat) : Int) := by rw [wrap_i64 (by omega) (by omega)]; omega
    have e0 : (⟨g, 0, none⟩ : Addr).add ((IntKind.i64.wrap ((k : Int) + i)).toNat * 1) = ⟨g, k + i, none⟩ := by rw [ek, Nat.mul_one, Addr.add_lit, Nat.zero_add, Int.toNat_natCast]
    have hk : k + i < (bvs (cur b [x0, x1, x2, x3] k i)).length := by rw [bvs_length, cur_length]; omega
    obtain ⟨hc, hf, hst⟩ := own_store hown (k + i) hk
    have hb' : (bvs (cur b [x0, x1, x2, x3] k i))[k + i] = bv ((cur b [x0, x1, x2, x3] k i).getD (k + i) 0) := by
      rw [bvs_length] at hk
      simp [bvs, List.getD_eq_getElem?_getD, List.getElem?_eq_getElem hk]
    rw [hb'] at hc
    have hx : wl.cell? ((⟨w.heap.size, 0, none⟩ : Addr).add ((i : Int).toNat * 1)) = some (bv ([x0, x1, x2, x3].getD i 0)) := by
      obtain ⟨a, ha, hcell⟩ := (hxs.new hl).at_ i (by rw [bvs_length]; simp; omega)
      cases ha
      have : i < [x0, x1, x2, x3].length := by simp; omega
      rw [Nat.mul_one, Int.toNat_natCast, hcell, ← List.getElem?_eq_getElem, bvs, List.getElem?_map, List.getD_eq_getElem?_getD, List.getElem?_eq_getElem this]
      rfl
    refine And.intro (by omega) (And.intro (by omega) (some_at rfl (Exists.intro _ (And.intro (fun w'' hw => by rw [e0]; exact hw.cell hc) ?_))))
    refine And.intro (by omega) (And.intro (by show (i : Int) < 4; omega) (Exists.intro _ (And.intro (fun w'' hw => hw.cell hx) ?_)))
    refine And.intro (by omega) (And.intro (by omega) (some_at rfl (And.intro ⟨_, by rw [e0]; exact (New.drew wl).cell hc⟩ (And.intro (by rw [e0]; exact hf) ?_))))
    obtain ⟨own5, mod5⟩ := (own_store (own_new (New.drew wl) hown) (k + i) hk).2.2 (bv (((cur b [x0, x1, x2, x3] k i).getD (k + i) 0) ^^^ ([x0, x1, x2, x3].getD i 0)))
    rw [bvs_set] at own5
    rw [← xor_cell, ← e0] at own5 mod5
    refine ⟨4 - (i + 1), i + 1, by omega, ⟨rfl, rfl, rfl, rfl, ?_, trivial⟩, by omega, rfl, own5, Mod.trans (hl.trans (New.drew _)) mod5 fun i hi h => by omega⟩
    show Value.int .i64 (IntKind.i64.wrap _) = _
    rw [wrap_i64 (by omega) (by omega)]
    rfl
  · have : i = 4 := by omega
    subst this
    obtain ⟨_, _, he, _, _, row, _⟩ := own_slice hown
    cases he
    have hcl : m = (cur b [x0, x1, x2, x3] k 4).length := by rw [cur_length]; exact hn'
    refine call_ (Base.SameBytes_ok A _ _ _ _ _ _ _ _ hn' hcl (hr'.new hl) row) ?_
    rintro e w4 ⟨rfl, rfl⟩
    have h4 := h1.trans hl
    refine ⟨_, rfl, ?_⟩
    refine call_ (Of1_ok A m _ b w4 (ht.new h4) hn' (hr'.new hl) (by omega)) ?_
    rintro e w5 ⟨rfl, rfl⟩
    have h5 := New.alloc w4 (.cells #[.slice A m cc] 23)
    refine ⟨_, rfl, ?_⟩
    refine call_ (Of1_ok _ m c3 _ _ (ht.new (h4.trans h5)) hcl (row.new h5) (by omega)) ?_
    rintro e w6 ⟨rfl, rfl⟩
    refine ⟨_, rfl, ?_, (h4.trans h5).trans (New.alloc _ _)⟩
    show Ending.returned (.bool (decide _)) = _
    rw [finds b [x0, x1, x2, x3] k (by omega)]
end Go.Proofs.YtedinhcapfhlhaaDoor.Sum
