/- Plain mathematics of the check sum: what a turned byte does to it; four places one behind the other. No program in sight. -/
import Derived.Test.YtpcoleeggeahlaaDoorCrc
namespace Go.Proofs.YtpcoleeggeahlaaDoor.Crc

theorem run_app (s : W) (a b : List UInt8) : run s (a ++ b) = run (run s a) b := by
  unfold run
  rw [List.foldl_append]
theorem byte_xor (s d : W) (x : UInt8) : byte (s ^^^ d) x = byte s x ^^^ tn 8 d := by
  unfold byte
  rw [BitVec.xor_assoc, BitVec.xor_comm d, ← BitVec.xor_assoc, tn_xor]
theorem run_xor_state (q : List UInt8) : ∀ (s d : W), run (s ^^^ d) q = run s q ^^^ tn (8 * q.length) d := by
  induction q with
  | nil => intro s d; rfl
  | cons x q ih =>
    intro s d
    show run (byte (s ^^^ d) x) q = run (byte s x) q ^^^ _
    rw [byte_xor, ih, List.length_cons, show 8 * (q.length + 1) = 8 + 8 * q.length by omega, tn_add]
theorem run_inj {q : List UInt8} {s s' : W} (h : run s q = run s' q) : s = s' := by
  have e : s' = s ^^^ (s ^^^ s') := by rw [← BitVec.xor_assoc, BitVec.xor_self, BitVec.zero_xor]
  rw [e, run_xor_state] at h
  have h0 : tn (8 * q.length) (s ^^^ s') = 0#32 := by
    have := congrArg (run s q ^^^ ·) h
    simp only [← BitVec.xor_assoc, BitVec.xor_self, BitVec.zero_xor] at this
    exact this.symm
  exact BitVec.xor_eq_zero_iff.mp (tn_inj0 h0)
theorem wide_xor (x y : UInt8) : wide (x ^^^ y) = wide x ^^^ wide y := by
  unfold wide
  rw [UInt8.toBitVec_xor, BitVec.setWidth_xor]
theorem byte_turn (s : W) (x y : UInt8) : byte s (x ^^^ y) = byte s x ^^^ tn 8 (wide y) := by
  unfold byte
  rw [wide_xor, ← BitVec.xor_assoc, tn_xor]
theorem not_xor (a b : W) : ~~~(a ^^^ b) = ~~~a ^^^ b := by
  rw [← BitVec.allOnes_xor, ← BitVec.allOnes_xor, BitVec.xor_assoc]
/-- A byte turned over: what the sum becomes. -/
theorem on_turn (c : W) (p q : List UInt8) (x y : UInt8) : on c (p ++ (x ^^^ y) :: q) = on c (p ++ x :: q) ^^^ tn (8 * (q.length + 1)) (wide y) := by
  unfold on
  rw [run_app, run_app]
  show ~~~ run (byte _ (x ^^^ y)) q = ~~~ run (byte _ x) q ^^^ _
  rw [byte_turn, run_xor_state, not_xor, show 8 * (q.length + 1) = 8 + 8 * q.length by omega, tn_add]
theorem on_eq_run {c : W} {a b : List UInt8} (h : on c a = on c b) : run (~~~c) a = run (~~~c) b := by
  unfold on at h
  have := congrArg (~~~ ·) h
  simpa using this
theorem wide_inj {x y : UInt8} (h : wide x = wide y) : x = y := by
  have : wide (x ^^^ y) = 0#32 := by rw [wide_xor, h, BitVec.xor_self]
  exact UInt8.xor_eq_zero_iff.mp ((wide_zero_iff _).mp this)

def word (a b c d : UInt8) : W := wide a ^^^ wide b <<< 8 ^^^ wide c <<< 16 ^^^ wide d <<< 24
theorem tn_put (k : Nat) (s : W) (x : UInt8) (hk : k ≤ 24) : tn k s ^^^ wide x = tn k (s ^^^ wide x <<< k) := by
  have hx := wide_lt x
  have hp : (2 : Nat) ^ k ≤ 2 ^ 24 := Nat.pow_le_pow_right (by decide) hk
  rw [tn_xor, tn_shl k (wide x) (by omega) (Nat.lt_of_le_of_lt (Nat.mul_le_mul_left _ hp) (by omega))]
theorem run4 (s : W) (a b c d : UInt8) : run s [a, b, c, d] = tn 32 (s ^^^ word a b c d) := by
  show tn 8 (tn 8 (tn 8 (tn 8 (s ^^^ wide a) ^^^ wide b) ^^^ wide c) ^^^ wide d) = _
  rw [tn_put 8 _ b (by omega), ← tn_add, tn_put 16 _ c (by omega), ← tn_add, tn_put 24 _ d (by omega), ← tn_add]
  unfold word
  simp only [BitVec.xor_assoc]
theorem wide_bit (x : UInt8) (i : Nat) : (wide x).getLsbD i = x.toBitVec.getLsbD i := by
  unfold wide
  rw [BitVec.getLsbD_setWidth]
  by_cases h : i < 32
  · simp [h]
  · simp [h]
    exact BitVec.getLsbD_of_ge _ _ (by omega)
theorem word_zero {a b c d : UInt8} (h : word a b c d = 0#32) : a = 0 ∧ b = 0 ∧ c = 0 ∧ d = 0 := by
  have bit : ∀ i, (word a b c d).getLsbD i = false := by intro i; rw [h]; simp
  have hb : ∀ (x : UInt8) (i : Nat), 8 ≤ i → (wide x).getLsbD i = false := fun x i hi => by rw [wide_bit]; exact BitVec.getLsbD_of_ge _ _ hi
  have z : ∀ x : UInt8, (∀ i, i < 8 → (wide x).getLsbD i = false) → x = 0 := by
    intro x hx
    apply (wide_zero_iff x).mp
    apply BitVec.eq_of_getLsbD_eq
    intro i hi
    by_cases h8 : i < 8
    · simpa using hx i h8
    · simpa using hb x i (by omega)
  unfold word at bit
  simp only [BitVec.getLsbD_xor, BitVec.getLsbD_shiftLeft] at bit
  refine ⟨z a ?_, z b ?_, z c ?_, z d ?_⟩
  · intro i hi
    have := bit i
    simpa [show i < 8 by omega, show i < 16 by omega, show i < 24 by omega] using this
  · intro i hi
    have := bit (i + 8)
    rw [hb a (i + 8) (by omega), show i + 8 - 8 = i by omega] at this
    simpa [show i + 8 < 32 by omega, show i + 8 < 16 by omega, show i + 8 < 24 by omega] using this
  · intro i hi
    have := bit (i + 16)
    rw [hb a (i + 16) (by omega), hb b (i + 16 - 8) (by omega), show i + 16 - 16 = i by omega] at this
    simpa [show i + 16 < 32 by omega, show i + 16 < 24 by omega] using this
  · intro i hi
    have := bit (i + 24)
    rw [hb a (i + 24) (by omega), hb b (i + 24 - 8) (by omega), hb c (i + 24 - 16) (by omega), show i + 24 - 24 = i by omega] at this
    simpa [show i + 24 < 32 by omega] using this
theorem x8 (a b c d a' b' c' d' : W) : (a ^^^ b ^^^ c ^^^ d) ^^^ (a' ^^^ b' ^^^ c' ^^^ d') = (a ^^^ a') ^^^ (b ^^^ b') ^^^ (c ^^^ c') ^^^ (d ^^^ d') := by ac_rfl
theorem word_xor (a b c d a' b' c' d' : UInt8) : word a b c d ^^^ word a' b' c' d' = word (a ^^^ a') (b ^^^ b') (c ^^^ c') (d ^^^ d') := by
  unfold word
  rw [wide_xor, wide_xor, wide_xor, wide_xor, BitVec.shiftLeft_xor_distrib, BitVec.shiftLeft_xor_distrib, BitVec.shiftLeft_xor_distrib]
  exact x8 _ _ _ _ _ _ _ _
/-- Bytes that differ within four places one behind the other have other sums. -/
theorem on_four {s : W} {p q m m' : List UInt8} (h4 : m.length = 4) (h4' : m'.length = 4) (h : on s (p ++ m ++ q) = on s (p ++ m' ++ q)) : m = m' := by
  have h := on_eq_run h
  rw [run_app, run_app, run_app, run_app] at h
  have h := run_inj h
  obtain ⟨a, b, c, d, rfl⟩ : ∃ a b c d, m = [a, b, c, d] := by
    match m, h4 with
    | [a, b, c, d], _ => exact ⟨a, b, c, d, rfl⟩
  obtain ⟨a', b', c', d', rfl⟩ : ∃ a b c d, m' = [a, b, c, d] := by
    match m', h4' with
    | [a, b, c, d], _ => exact ⟨a, b, c, d, rfl⟩
  rw [run4, run4] at h
  have h := tn_inj h
  have h0 : word a b c d ^^^ word a' b' c' d' = 0#32 := by
    rw [BitVec.xor_eq_zero_iff]
    have := congrArg (fun v : W => (run (~~~s) p) ^^^ v) h
    simpa only [← BitVec.xor_assoc, BitVec.xor_self, BitVec.zero_xor] using this
  rw [word_xor] at h0
  obtain ⟨h1, h2, h3, h4⟩ := word_zero h0
  rw [UInt8.xor_eq_zero_iff.mp h1, UInt8.xor_eq_zero_iff.mp h2, UInt8.xor_eq_zero_iff.mp h3, UInt8.xor_eq_zero_iff.mp h4]
/-- One byte alone. -/
theorem on_one {c : W} {p q : List UInt8} {x y : UInt8} (h : on c (p ++ x :: q) = on c (p ++ y :: q)) : x = y := by
  have h := on_eq_run h
  rw [run_app, run_app] at h
  have h : byte (run (~~~c) p) x = byte (run (~~~c) p) y := run_inj (q := q) h
  unfold byte at h
  have h := tn_inj h
  apply wide_inj
  have := congrArg (fun v : W => (run (~~~c) p) ^^^ v) h
  simpa only [← BitVec.xor_assoc, BitVec.xor_self, BitVec.zero_xor] using this
end Go.Proofs.YtpcoleeggeahlaaDoor.Crc
