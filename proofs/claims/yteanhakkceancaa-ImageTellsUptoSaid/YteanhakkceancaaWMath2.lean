/- Plain mathematics of numbers written as bytes. No program in sight. -/
import Derived.Test.YteanhakkceancaaWMath
namespace Go.Proofs.Yteanhakkceancaa.Word
open Go Go.Proofs.Yteanhakkceancaa.Eng

/-- Byte i of a number of k bytes. -/
def encAt (k : Nat) (n : Int) (i : Nat) : UInt8 := UInt8.ofNat ((n / 2 ^ (8 * (k - 1 - i))) % 256).toNat
def enc (k : Nat) (n : Int) : List UInt8 := (List.range k).map (encAt k n)
theorem enc_length (k : Nat) (n : Int) : (enc k n).length = k := by simp [enc]
/-- Does a number go into so many bytes? -/
def fits (k : Int) (n : Int) (sign : Bool) : Bool :=
  if k = 8 then sign || decide (0 ≤ n) else
  if sign = true then decide (n / 2 ^ (8 * k.toNat - 1) = 0) || decide (n / 2 ^ (8 * k.toNat - 1) = -1) else decide (n / 2 ^ (8 * k.toNat) = 0)
def puts (bs : List UInt8) (a : Nat) (f : Nat → UInt8) : Nat → List UInt8
  | 0 => bs
  | i + 1 => (puts bs a f i).set (a + i) (f i)
theorem puts_length (bs : List UInt8) (a : Nat) (f : Nat → UInt8) : ∀ i, (puts bs a f i).length = bs.length
  | 0 => rfl
  | i + 1 => by simp only [puts, List.length_set]; exact puts_length bs a f i
theorem puts_eq (bs : List UInt8) (a : Nat) (f : Nat → UInt8) : ∀ i, a + i ≤ bs.length → puts bs a f i = bs.take a ++ (List.range i).map f ++ bs.drop (a + i)
  | 0, h => by simp [puts]
  | i + 1, h => by
    rw [puts, puts_eq bs a f i (by omega), List.range_succ, List.map_append]
    have hl : (bs.take a ++ (List.range i).map f).length = a + i := by simp; omega
    rw [List.set_append_right _ _ (by rw [hl]; exact Nat.le_refl _), hl, Nat.sub_self]
    have hd : bs.drop (a + i) = bs[a + i] :: bs.drop (a + (i + 1)) := List.drop_eq_getElem_cons (by omega)
    rw [hd]
    simp [List.append_assoc]
/-- What is written over. -/
def patch (bs : List UInt8) (a k : Nat) (n : Int) : List UInt8 := bs.take a ++ enc k n ++ bs.drop (a + k)
theorem patch_length (bs : List UInt8) (a k : Nat) (n : Int) (h : a + k ≤ bs.length) : (patch bs a k n).length = bs.length := by
  simp [patch, enc_length]
  omega
theorem patch_end (bs z : List UInt8) (k : Nat) (n : Int) (hz : z.length = k) : patch (bs ++ z) bs.length k n = bs ++ enc k n := by
  unfold patch
  rw [List.take_left' rfl, List.drop_eq_nil_of_le (by simp; omega), List.append_nil]
theorem enc_zero (n : Int) : enc 0 n = [] := rfl
/-- A number's bytes give the number again, by its remainder. -/
theorem be_enc1 (n : Int) : (be (enc 1 n) : Int) = n % 256 := by
  have : be (enc 1 n) = (0 * 256 + (UInt8.ofNat ((n / 2 ^ (8 * 0)) % 256).toNat).toNat) := rfl
  rw [this]
  simp only [UInt8.toNat_ofNat']
  omega
theorem be_enc2 (n : Int) : (be (enc 2 n) : Int) = n % 65536 := by
  have : be (enc 2 n) = ((0 * 256 + (UInt8.ofNat ((n / 2 ^ 8) % 256).toNat).toNat) * 256 + (UInt8.ofNat ((n / 2 ^ 0) % 256).toNat).toNat) := rfl
  rw [this]
  simp only [UInt8.toNat_ofNat']
  omega
theorem be_enc4 (n : Int) : (be (enc 4 n) : Int) = n % 4294967296 := by
  have : be (enc 4 n) = ((((0 * 256 + (UInt8.ofNat ((n / 2 ^ 24) % 256).toNat).toNat) * 256 + (UInt8.ofNat ((n / 2 ^ 16) % 256).toNat).toNat) * 256 + (UInt8.ofNat ((n / 2 ^ 8) % 256).toNat).toNat) * 256 + (UInt8.ofNat ((n / 2 ^ 0) % 256).toNat).toNat) := rfl
  rw [this]
  simp only [UInt8.toNat_ofNat']
  omega
theorem be_gen (b : List UInt8) : ∀ s : Nat, b.foldl (fun n b => n * 256 + b.toNat) s = s * 256 ^ b.length + be b := by
  induction b with
  | nil => intro s; simp [be]
  | cons x b ih =>
    intro s
    have h0 : be (x :: b) = (0 * 256 + x.toNat) * 256 ^ b.length + be b := ih _
    rw [List.foldl_cons, ih, h0, List.length_cons, Nat.pow_succ, Nat.zero_mul, Nat.zero_add, Nat.add_mul, Nat.mul_assoc, Nat.mul_comm 256, Nat.add_assoc]
theorem be_append (a b : List UInt8) : be (a ++ b) = be a * 256 ^ b.length + be b := by
  unfold be
  rw [List.foldl_append]
  exact be_gen b _
theorem enc8 (n : Int) : enc 8 n = enc 4 (n / 4294967296) ++ enc 4 n := by
  have d : ∀ a b c : Int, n / 4294967296 / 2 ^ 24 = n / 2 ^ 56 ∧ n / 4294967296 / 2 ^ 16 = n / 2 ^ 48 ∧ n / 4294967296 / 2 ^ 8 = n / 2 ^ 40 ∧ n / 4294967296 / 2 ^ 0 = n / 2 ^ 32 := by omega
  obtain ⟨d1, d2, d3, d4⟩ := d 0 0 0
  show [UInt8.ofNat ((n / 2 ^ 56) % 256).toNat, UInt8.ofNat ((n / 2 ^ 48) % 256).toNat, UInt8.ofNat ((n / 2 ^ 40) % 256).toNat, UInt8.ofNat ((n / 2 ^ 32) % 256).toNat, UInt8.ofNat ((n / 2 ^ 24) % 256).toNat, UInt8.ofNat ((n / 2 ^ 16) % 256).toNat, UInt8.ofNat ((n / 2 ^ 8) % 256).toNat, UInt8.ofNat ((n / 2 ^ 0) % 256).toNat]
    = [UInt8.ofNat ((n / 4294967296 / 2 ^ 24) % 256).toNat, UInt8.ofNat ((n / 4294967296 / 2 ^ 16) % 256).toNat, UInt8.ofNat ((n / 4294967296 / 2 ^ 8) % 256).toNat, UInt8.ofNat ((n / 4294967296 / 2 ^ 0) % 256).toNat, UInt8.ofNat ((n / 2 ^ 24) % 256).toNat, UInt8.ofNat ((n / 2 ^ 16) % 256).toNat, UInt8.ofNat ((n / 2 ^ 8) % 256).toNat, UInt8.ofNat ((n / 2 ^ 0) % 256).toNat]
  rw [d1, d2, d3, d4]
theorem be_enc8 (n : Int) : (be (enc 8 n) : Int) = n % 18446744073709551616 := by
  have e1 := be_enc4 (n / 4294967296)
  have e2 := be_enc4 n
  rw [enc8, be_append, enc_length]
  have : ((be (enc 4 (n / 4294967296)) * 256 ^ 4 + be (enc 4 n) : Nat) : Int) = (be (enc 4 (n / 4294967296)) : Int) * 4294967296 + (be (enc 4 n) : Int) := by omega
  rw [this, e1, e2]
  omega
/-- What was written without a sign is read. -/
theorem back_u (k : Nat) (n : Int) (hk : wide k = true) (h : fits k n false = true) (h64 : n ≤ 9223372036854775807) : (be (enc k n) : Int) = n ∧ be (enc k n) < 9223372036854775808 := by
  have hk' := wide_cases hk
  have hk'' : k = 1 ∨ k = 2 ∨ k = 4 ∨ k = 8 := by omega
  rcases hk'' with rfl | rfl | rfl | rfl
  · have e := be_enc1 n
    simp [fits] at h
    omega
  · have e := be_enc2 n
    simp [fits] at h
    omega
  · have e := be_enc4 n
    simp [fits] at h
    omega
  · have e := be_enc8 n
    simp [fits] at h
    omega
/-- What was written with a sign is read. -/
theorem back_s (k : Nat) (n : Int) (hk : wide k = true) (h : fits k n true = true) (l : -9223372036854775808 ≤ n) (h64 : n ≤ 9223372036854775807) : sval k (be (enc k n)) = n := by
  have hk' := wide_cases hk
  have hk'' : k = 1 ∨ k = 2 ∨ k = 4 ∨ k = 8 := by omega
  unfold sval
  rcases hk'' with rfl | rfl | rfl | rfl
  · have e := be_enc1 n
    simp [fits] at h
    show (if be (enc 1 n) < 128 then ((be (enc 1 n) : Nat) : Int) else ((be (enc 1 n) : Nat) : Int) - 256) = n
    split <;> omega
  · have e := be_enc2 n
    simp [fits] at h
    show (if be (enc 2 n) < 32768 then ((be (enc 2 n) : Nat) : Int) else ((be (enc 2 n) : Nat) : Int) - 65536) = n
    split <;> omega
  · have e := be_enc4 n
    simp [fits] at h
    show (if be (enc 4 n) < 2147483648 then ((be (enc 4 n) : Nat) : Int) else ((be (enc 4 n) : Nat) : Int) - 4294967296) = n
    split <;> omega
  · have e := be_enc8 n
    show (if be (enc 8 n) < 9223372036854775808 then ((be (enc 8 n) : Nat) : Int) else ((be (enc 8 n) : Nat) : Int) - 18446744073709551616) = n
    split <;> omega
end Go.Proofs.Yteanhakkceancaa.Word
