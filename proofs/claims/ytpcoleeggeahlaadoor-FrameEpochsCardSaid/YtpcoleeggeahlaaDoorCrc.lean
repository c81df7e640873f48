/- Plain mathematics of the check sum: one step of the division is linear and loses nothing. No program in sight. -/
namespace Go.Proofs.YtpcoleeggeahlaaDoor.Crc

abbrev W := BitVec 32
def poly : W := 0x82f63b78#32
def t1 (c : W) : W := if c.getLsbD 0 then (c >>> 1) ^^^ poly else c >>> 1
def tn : Nat → W → W
  | 0, c => c
  | n + 1, c => tn n (t1 c)
def wide (x : UInt8) : W := x.toBitVec.setWidth 32
def byte (s : W) (x : UInt8) : W := tn 8 (s ^^^ wide x)
def run (s : W) (bs : List UInt8) : W := bs.foldl byte s
/-- The sum of bytes, going on from a sum. -/
def on (c : W) (bs : List UInt8) : W := ~~~ run (~~~ c) bs

theorem tn_add (a b : Nat) (c : W) : tn (a + b) c = tn b (tn a c) := by
  induction a generalizing c with
  | zero => simp [tn]
  | succ a ih => rw [Nat.succ_add]; simp only [tn]; exact ih _

theorem t1_xor (a b : W) : t1 (a ^^^ b) = t1 a ^^^ t1 b := by
  unfold t1
  rw [BitVec.getLsbD_xor, BitVec.ushiftRight_xor_distrib]
  cases a.getLsbD 0 <;> cases b.getLsbD 0 <;> simp
  · exact BitVec.xor_assoc _ _ _
  · rw [BitVec.xor_assoc, BitVec.xor_assoc, BitVec.xor_comm poly]
  · rw [BitVec.xor_assoc, ← BitVec.xor_assoc poly, BitVec.xor_comm poly, BitVec.xor_assoc, BitVec.xor_self, BitVec.xor_zero]
theorem tn_xor (n : Nat) (a b : W) : tn n (a ^^^ b) = tn n a ^^^ tn n b := by
  induction n generalizing a b with
  | zero => rfl
  | succ n ih => simp only [tn]; rw [t1_xor, ih]
theorem t1_zero : t1 0#32 = 0#32 := by decide
theorem tn_zero (n : Nat) : tn n 0#32 = 0#32 := by
  induction n with
  | zero => rfl
  | succ n ih => simp only [tn]; rw [t1_zero, ih]

theorem t1_inj0 {a : W} (h : t1 a = 0#32) : a = 0#32 := by
  unfold t1 at h
  split at h
  · rename_i hb
    exfalso
    have h31 := congrArg (fun v : W => v.getLsbD 31) h
    simp [poly] at h31
  · rename_i hb
    apply BitVec.eq_of_getLsbD_eq
    intro i hi
    cases i with
    | zero => simpa using hb
    | succ i =>
      have hx := congrArg (fun v : W => v.getLsbD i) h
      simp at hx
      rw [Nat.add_comm] at hx
      simpa using hx
theorem tn_inj0 {n : Nat} {a : W} (h : tn n a = 0#32) : a = 0#32 := by
  induction n generalizing a with
  | zero => exact h
  | succ n ih => exact t1_inj0 (ih h)
theorem tn_inj {n : Nat} {a b : W} (h : tn n a = tn n b) : a = b := by
  have h0 : tn n (a ^^^ b) = 0#32 := by rw [tn_xor, h, BitVec.xor_self]
  have := tn_inj0 h0
  exact (BitVec.xor_eq_zero_iff).mp this

theorem t1_shl (z : W) (h : z.getLsbD 31 = false) : t1 (z <<< 1) = z := by
  unfold t1
  rw [if_neg (by simp)]
  apply BitVec.eq_of_getLsbD_eq
  intro i hi
  simp
  by_cases h31 : i = 31
  · subst h31; simpa using h
  · intro; omega

theorem tn_shl (k : Nat) : ∀ (z : W), k ≤ 32 → z.toNat * 2 ^ k < 2 ^ 32 → tn k (z <<< k) = z := by
  induction k with
  | zero => intro z _ _; simp [tn]
  | succ k ih =>
    intro z hk hz
    simp only [tn]
    have e : z <<< (k + 1) = (z <<< k) <<< 1 := by rw [← BitVec.shiftLeft_add]
    have hz' : z.toNat * 2 ^ k < 2 ^ 31 := by rw [Nat.pow_succ, ← Nat.mul_assoc] at hz; omega
    rw [e, t1_shl _ ?_]
    · exact ih z (by omega) (by omega)
    · have hn : (z <<< k).toNat = z.toNat * 2 ^ k := by
        rw [BitVec.toNat_shiftLeft, Nat.shiftLeft_eq, Nat.mod_eq_of_lt (by omega)]
      rw [← BitVec.testBit_toNat, hn]
      exact Nat.testBit_lt_two_pow hz'

theorem wide_lt (x : UInt8) : (wide x).toNat < 256 := by
  unfold wide
  have := x.toBitVec.isLt
  rw [BitVec.toNat_setWidth]
  omega
theorem wide_zero_iff (x : UInt8) : wide x = 0#32 ↔ x = 0 := by
  constructor
  · intro h
    have h1 := congrArg BitVec.toNat h
    unfold wide at h1
    rw [BitVec.toNat_setWidth] at h1
    have := x.toBitVec.isLt
    have h2 : x.toNat = 0 := by
      rw [← UInt8.toNat_toBitVec]
      simp at h1 ⊢
      omega
    exact UInt8.toNat_inj.mp (by simpa using h2)
  · rintro rfl; rfl

end Go.Proofs.YtpcoleeggeahlaaDoor.Crc
