/- The statement SumBreaks, walked. -/
import Derived.Test.YtedinhcapfhlhaaDoorLawSeals
import Derived.Test.YtedinhcapfhlhaaDoorCrc2
namespace Go.Proofs.YtedinhcapfhlhaaDoor.Sum
open Go Go.Proofs.YtedinhcapfhlhaaDoor Go.Proofs.YtedinhcapfhlhaaDoor.Eng Go.Proofs
set_option maxRecDepth 10000

/-- A bit of one byte turned over. -/
def turnBit (bs : List UInt8) (k : Nat) (j : Nat) : List UInt8 := bs.set k (bs.getD k 0 ^^^ UInt8.ofNat (2 ^ j))
theorem pow_ne (j : Nat) (h : j < 8) : UInt8.ofNat (2 ^ j) ≠ 0 := by
  rcases (by omega : j = 0 ∨ j = 1 ∨ j = 2 ∨ j = 3 ∨ j = 4 ∨ j = 5 ∨ j = 6 ∨ j = 7) with rfl | rfl | rfl | rfl | rfl | rfl | rfl | rfl <;> decide
theorem turn_ne (x : UInt8) (j : Nat) (h : j < 8) : x ^^^ UInt8.ofNat (2 ^ j) ≠ x := by
  intro e
  have : x ^^^ (x ^^^ UInt8.ofNat (2 ^ j)) = x ^^^ x := by rw [e]
  rw [← UInt8.xor_assoc, UInt8.xor_self, UInt8.zero_xor] at this
  exact pow_ne j h this
theorem split_at {bs : List UInt8} {k : Nat} (hk : k < bs.length) : bs = bs.take k ++ bs.getD k 0 :: bs.drop (k + 1) := by
  have : bs.drop k = bs[k] :: bs.drop (k + 1) := List.drop_eq_getElem_cons hk
  conv => lhs; rw [← List.take_append_drop k bs, this]
  rw [List.getD_eq_getElem?_getD, List.getElem?_eq_getElem hk]
  rfl
theorem set_at {bs : List UInt8} {k : Nat} (hk : k < bs.length) (v : UInt8) : bs.set k v = bs.take k ++ v :: bs.drop (k + 1) := List.set_eq_take_append_cons_drop .. |>.trans (by rw [if_pos hk])
theorem last4_inj {a b : Crc.W} (h : last4 a = last4 b) : a = b := by
  simp only [last4, List.cons.injEq, and_true] at h
  obtain ⟨h1, h2, h3, h4⟩ := h
  have n : ∀ {x y : Nat}, UInt8.ofNat x = UInt8.ofNat y → x % 256 = y % 256 := fun {x y} e => by
    have := congrArg UInt8.toNat e
    simpa using this
  apply BitVec.eq_of_toNat_eq
  have h1 := n h1
  have h2 := n h2
  have h3 := n h3
  have h4 := n h4
  have := a.isLt
  have := b.isLt
  omega
/-- What is sealed, with a bit turned over anywhere, is not right. -/
theorem not_right (bs : List UInt8) (k j : Nat) (hk : k < bs.length + 4) (hj : j < 8) : right (turnBit (sealed bs) k j) = false := by
  have hl : (turnBit (sealed bs) k j).length = bs.length + 4 := by simp [turnBit, sealed_length]
  unfold right
  rw [hl, show bs.length + 4 - 4 = bs.length by omega]
  by_cases h : k < bs.length
  · have e1 : turnBit (sealed bs) k j = (bs.set k (bs.getD k 0 ^^^ UInt8.ofNat (2 ^ j))) ++ last4 (Crc.on 0#32 bs) := by
      unfold turnBit sealed
      rw [List.set_append_left _ _ h, List.getD_eq_getElem?_getD, List.getElem?_append_left h, ← List.getD_eq_getElem?_getD]
    rw [e1, List.take_left' (by simp)]
    have hne : ¬ sealed (bs.set k (bs.getD k 0 ^^^ UInt8.ofNat (2 ^ j))) = bs.set k (bs.getD k 0 ^^^ UInt8.ofNat (2 ^ j)) ++ last4 (Crc.on 0#32 bs) := by
      intro e
      unfold sealed at e
      have e := last4_inj (List.append_cancel_left e)
      rw [set_at h] at e
      conv at e => rhs; rw [split_at h]
      exact turn_ne _ j hj (Crc.on_one e)
    rw [decide_eq_false hne]
    simp
  · have e1 : (turnBit (sealed bs) k j).take bs.length = bs := by
      unfold turnBit sealed
      rw [List.set_append_right _ _ (by omega), List.take_left' rfl]
    rw [e1]
    have hne : ¬ sealed bs = turnBit (sealed bs) k j := by
      intro e
      have hk' : k < (sealed bs).length := by rw [sealed_length]; exact hk
      unfold turnBit at e
      rw [set_at hk'] at e
      conv at e => lhs; rw [split_at hk']
      have e := List.append_cancel_left e
      simp only [List.cons.injEq, and_true] at e
      exact turn_ne _ j hj e.symm
    rw [decide_eq_false hne]
    simp
/-- 'byte(1 << uint(j))' put into a byte. -/
theorem turn_cell (x : UInt8) (j : Int) (h0 : 0 ≤ j) (h7 : j < 8) : Value.int .u8 (bits .xor .u8 (x.toNat : Int) (IntKind.u8.wrap (1 * 2 ^ min (IntKind.u64.wrap j).toNat IntKind.u8.bits))) = bv (x ^^^ UInt8.ofNat (2 ^ j.toNat)) := by
  have hj : j = 0 ∨ j = 1 ∨ j = 2 ∨ j = 3 ∨ j = 4 ∨ j = 5 ∨ j = 6 ∨ j = 7 := by omega
  have key : ∀ y : UInt8, bits .xor .u8 (x.toNat : Int) (y.toNat : Int) = ((x ^^^ y).toNat : Int) := by
    intro y
    exact bits_xor8 x.toBitVec y.toBitVec
  have e : IntKind.u8.wrap (1 * 2 ^ min (IntKind.u64.wrap j).toNat IntKind.u8.bits) = ((UInt8.ofNat (2 ^ j.toNat)).toNat : Int) := by
    rcases hj with rfl | rfl | rfl | rfl | rfl | rfl | rfl | rfl <;> decide
  rw [e, key]
  rfl
theorem bvs_set (bs : List UInt8) (k : Nat) (x : UInt8) : (bvs bs).set k (bv x) = bvs (bs.set k x) := by
  unfold bvs
  rw [List.map_set]

/-- The same, with what it answers behind a name: a test upon it stays a test. -/
theorem works_ok' (w : World) (ht : tbl w) : Calls Tryd.prog 19 #[] w fun e w' => ∃ b, b = true ∧ e = .returned (.bool b) ∧ New w w' :=
  (works_ok w ht).mono fun _ _ h => ⟨true, rfl, h.1, h.2⟩
theorem SumBreaks_ok (A : Option Addr) (n cc : Nat) (bs : List UInt8) (at_ bit : Int) (w : World) (ht : tbl w) (hn : n = bs.length) (hr : Row w A (bvs bs)) (hcc : n ≤ cc) :
    Calls Tryd.prog 7 #[.slice A n cc, .int .i64 at_, .int .i64 bit] w fun e w' => e = .returned (.bool true) ∧ New w w' := by
  refine enter ok Tryd.func7 rfl rfl rfl ?_
  refine seq_assign ?_
  refine call_ (works_ok' w ht) ?_
  rintro e w1 ⟨b0, hb0, rfl, h1⟩
  refine ⟨_, rfl, ?_⟩
  refine if_no (by rw [hb0]; rfl) ?_
  refine seq_cut (σ := Unit) (fun _ => [(0, .slice A (min n 2000) cc), (1, .int .i64 at_), (2, .int .i64 bit)]) (fun _ w' => w' = w1) ?_ ?_
  rotate_left
  · intro K hK
    refine if_p (fun h => ?_) (fun h => ?_)
    · refine And.intro (by decide) (And.intro (by show (2000 : Int) ≤ (cc : Int); omega) (hK () _ _ ⟨cut_val (N := 2000) (by omega), rfl, rfl, trivial⟩ rfl))
    · refine hK () _ _ ⟨?_, rfl, rfl, trivial⟩ rfl
      show Value.slice _ _ _ = _
      rw [Nat.min_eq_left (by omega)]
  rintro s w1 fr0 rfl
  generalize hb : bs.take 2000 = b
  have hn' : min n 2000 = b.length := by rw [← hb, List.length_take, Nat.min_comm]; omega
  have hr' : Row w1 A (bvs b) := by rw [← hb, bvs_take]; exact (hr.new h1).take _
  generalize min n 2000 = m at hn'
  have hm : m ≤ 2000 := by rw [hn', ← hb, List.length_take]; omega
  refine call_ (Seal_ok A _ _ _ w1 (ht.new h1) hn' hr' (by omega)) ?_
  rintro e w2 ⟨v, rfl, hown, h2⟩
  obtain ⟨g, c2, rfl, hg1, hg2, hc2, _⟩ := own_pos hown (by omega)
  obtain ⟨_, _, he, _, _, row2, _⟩ := own_slice hown
  cases he
  refine ⟨_, rfl, ?_⟩
  have h12 := h1.trans h2
  have hl : m + 4 = (sealed b).length := by rw [sealed_length, ← hn']
  refine if_n (fun h => absurd (by rw [wrap_i64 (by omega) (by omega)]; rfl) h) (fun _ => ?_)
  refine call_ (Right_ok _ _ c2 _ w2 (ht.new h12) hl row2 (by omega) hc2) ?_
  rintro e w3 ⟨rfl, h3⟩
  have h13 := h12.trans h3
  refine ⟨_, rfl, ?_⟩
  refine if_no (by rw [right_sealed]; rfl) ?_
  refine call_ (Base.Among_ok at_ ((m + 4 : Nat) : Int) w3 (by omega)) ?_
  rintro e w' ⟨rfl, rfl⟩
  refine ⟨_, rfl, ?_⟩
  obtain ⟨k0, k1⟩ := Base.among_lt (x := at_) (n := ((m + 4 : Nat) : Int)) (by omega)
  generalize Base.among at_ ((m + 4 : Nat) : Int) = k at k0 k1
  have hown3 := own_new h3 hown
  have hk : k.toNat < (bvs (sealed b)).length := by rw [bvs_length, ← hl]; omega
  obtain ⟨hc, hf, hst⟩ := own_store hown3 k.toNat hk
  refine draw_ ok (.q 0 (.q 1 (.q 2 (.q 3 (.q 4 (.q 5 (.q 6 (.e 7 (.q 8 (.q 9 (.q 10 (.q 11 (.e 12 .done))))))))))))) [12] (New w') (by kernel_rfl) (by kernel_rfl) (by kernel_rfl) (by kernel_rfl) (by kernel_rfl) (New.drew w') ?_
  have hb' : (bvs (sealed b))[k.toNat] = bv ((sealed b).getD k.toNat 0) := by
    rw [bvs_length] at hk
    simp [bvs, List.getD_eq_getElem?_getD, List.getElem?_eq_getElem hk]
  rw [hb'] at hc
  have e0 : (⟨g, 0, none⟩ : Addr).add (k.toNat * 1) = ⟨g, k.toNat, none⟩ := by rw [Nat.mul_one, Addr.add_lit, Nat.zero_add]
  refine And.intro k0 (And.intro (by omega) (some_at rfl (Exists.intro _ (And.intro (fun w'' hw => by rw [e0]; exact hw.cell hc) ?_))))
  refine call_ (Base.Among_ok bit 8 w'.drew (by omega)) ?_
  rintro e w4 ⟨rfl, rfl⟩
  obtain ⟨j0, j1⟩ := Base.among_lt (x := bit) (n := 8) (by omega)
  refine ⟨_, rfl, Exists.intro (New w') (And.intro (fun _ h => h) (And.intro (New.drew w') ?_))⟩
  generalize Base.among bit 8 = j at j0 j1
  have e64 : IntKind.u64.wrap j = j := by rw [Base.wrap_u64_]; omega
  refine And.intro (by rw [e64]; exact j0) (And.intro k0 (And.intro (by omega) (some_at rfl (And.intro ⟨_, by rw [e0]; exact (New.drew w').cell hc⟩ (And.intro (by rw [e0]; exact hf) ?_)))))
  have howns := (own_store (own_new (New.drew w') hown3) k.toNat hk).2.2 (bv (((sealed b).getD k.toNat 0) ^^^ UInt8.ofNat (2 ^ j.toNat)))
  rw [bvs_set] at howns
  obtain ⟨own5, mod5⟩ := howns
  obtain ⟨_, _, he5, _, _, row5, _⟩ := own_slice own5
  cases he5
  have h5 : New w (w'.drew.setCell ⟨g, k.toNat, none⟩ (bv (((sealed b).getD k.toNat 0) ^^^ UInt8.ofNat (2 ^ j.toNat)))) :=
    Mod.trans (h13.trans (New.drew _)) mod5 fun i hi h => by have := h1.size; omega
  have ev : Value.int .u8 (bits .xor .u8 (((sealed b).getD k.toNat 0).toNat : Int) (IntKind.u8.wrap (1 * 2 ^ min (IntKind.u64.wrap j).toNat IntKind.u8.bits))) = bv (((sealed b).getD k.toNat 0) ^^^ UInt8.ofNat (2 ^ j.toNat)) := turn_cell _ j j0 j1
  have k6 := Right_ok _ _ c2 (turnBit (sealed b) k.toNat j.toNat) _ (ht.new h5) (by simp [turnBit]; exact hl) row5 (by omega) hc2
  refine call_ (by rw [e0, ev]; exact k6) ?_
  rintro e w6 ⟨rfl, h6⟩
  refine ⟨_, rfl, ?_, h5.trans h6⟩
  show Ending.returned (.bool (!right _)) = _
  rw [not_right b k.toNat j.toNat (by omega) (by omega)]
  rfl
end Go.Proofs.YtedinhcapfhlhaaDoor.Sum
