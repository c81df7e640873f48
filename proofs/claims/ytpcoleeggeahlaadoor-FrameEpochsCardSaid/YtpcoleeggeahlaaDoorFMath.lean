/- Plain mathematics of records: written, read, scanned. No program in sight. -/
import Derived.Test.YtpcoleeggeahlaaDoorSum4
namespace Go.Proofs.YtpcoleeggeahlaaDoor.Frame
open Go Go.Proofs.YtpcoleeggeahlaaDoor Go.Proofs.YtpcoleeggeahlaaDoor.Eng Go.Proofs Go.Proofs.YtpcoleeggeahlaaDoor.Sum

structure Rec where
  e : Int
  d : List UInt8
def be4 (n : Nat) : List UInt8 := [UInt8.ofNat (n / 2 ^ 24), UInt8.ofNat (n / 2 ^ 16), UInt8.ofNat (n / 2 ^ 8), UInt8.ofNat n]
theorem be4_len (n : Nat) : (be4 n).length = 4 := rfl
def enc (r : Rec) : List UInt8 := sealed (be4 r.d.length ++ be4 r.e.toNat ++ r.d)
theorem enc_len (r : Rec) : (enc r).length = r.d.length + 12 := by
  unfold enc
  rw [sealed_length, List.length_append, List.length_append, be4_len, be4_len]
  omega
def writeErr (r : Rec) : Int := if r.e < 0 ∨ 4294967295 < r.e then 2 else if 4096 < r.d.length then 3 else 0
def writeBs (r : Rec) : List UInt8 := if writeErr r = 0 then enc r else []
def allErr : List Rec → Int
  | [] => 0
  | r :: l => if writeErr r = 0 then allErr l else writeErr r
def allBs (l : List Rec) : List UInt8 := if allErr l = 0 then l.flatMap enc else []
/-- A number of four bytes. -/
def num (bs : List UInt8) (at_ : Nat) : Nat := ((bs.drop at_).take 4).foldl (fun n x => n * 256 + x.toNat) 0
theorem num_be4 (n : Nat) (h : n < 2 ^ 32) (p q : List UInt8) : num (p ++ be4 n ++ q) p.length = n := by
  unfold num
  rw [List.append_assoc, List.drop_left, List.take_append_of_le_length (by rw [be4_len]; omega), List.take_of_length_le (by rw [be4_len]; omega)]
  simp only [be4, List.foldl_cons, List.foldl_nil, UInt8.toNat_ofNat']
  omega
theorem num_lt (bs : List UInt8) (at_ : Nat) : num bs at_ < 2 ^ 32 := by
  unfold num
  have h4 : ((bs.drop at_).take 4).length ≤ 4 := by rw [List.length_take]; omega
  generalize (bs.drop at_).take 4 = l at h4
  match l, h4 with
  | [], _ => decide
  | [a], _ => have := a.toNat_lt; simp only [List.foldl_cons, List.foldl_nil]; omega
  | [a, b], _ => have := a.toNat_lt; have := b.toNat_lt; simp only [List.foldl_cons, List.foldl_nil]; omega
  | [a, b, c], _ => have := a.toNat_lt; have := b.toNat_lt; have := c.toNat_lt; simp only [List.foldl_cons, List.foldl_nil]; omega
  | [a, b, c, d], _ => have := a.toNat_lt; have := b.toNat_lt; have := c.toNat_lt; have := d.toNat_lt; simp only [List.foldl_cons, List.foldl_nil]; omega
/-- What bytes begin with. -/
def firstErr (bs : List UInt8) : Int :=
  if bs.length < 8 then 7 else if 4096 < num bs 0 then 30 else if bs.length < num bs 0 + 12 then 7 else if right (bs.take (num bs 0 + 12)) = true then 0 else 30
def firstRec (bs : List UInt8) : Rec := if firstErr bs = 0 then ⟨num bs 4, (bs.drop 8).take (num bs 0)⟩ else ⟨0, []⟩
def firstSize (bs : List UInt8) : Nat := if firstErr bs = 0 then num bs 0 + 12 else 0
theorem first_len {bs : List UInt8} (h : firstErr bs = 0) : firstSize bs ≤ bs.length ∧ 12 ≤ firstSize bs := by
  unfold firstSize
  rw [if_pos h]
  unfold firstErr at h
  split at h
  · cases h
  split at h
  · cases h
  split at h
  · cases h
  omega
/-- The records of bytes, each with where it ends, from a place and an epoch on. -/
def recs : Nat → List UInt8 → Nat → Int → List (Nat × Rec)
  | 0, _, _, _ => []
  | f + 1, bs, at_, last =>
    if firstErr (bs.drop at_) = 0 ∧ ¬ (firstRec (bs.drop at_)).e < last then
      (at_ + firstSize (bs.drop at_), firstRec (bs.drop at_)) :: recs f bs (at_ + firstSize (bs.drop at_)) (firstRec (bs.drop at_)).e
    else []
def scan (bs : List UInt8) : List (Nat × Rec) := recs (bs.length + 1) bs 0 0
def endOf (l : List (Nat × Rec)) : Nat := (l.getLast?.map (·.1)).getD 0
/-- A record that was written, whatever stands behind it. -/
theorem first_enc (r : Rec) (h0 : 0 ≤ r.e) (h1 : r.e ≤ 4294967295) (h2 : r.d.length ≤ 4096) (q : List UInt8) : firstErr (enc r ++ q) = 0 ∧ firstRec (enc r ++ q) = r ∧ firstSize (enc r ++ q) = r.d.length + 12 := by
  have hn0 : num (enc r ++ q) 0 = r.d.length := by
    have := num_be4 r.d.length (by omega) [] (be4 r.e.toNat ++ r.d ++ last4 (Crc.on 0#32 (be4 r.d.length ++ be4 r.e.toNat ++ r.d)) ++ q)
    unfold enc sealed
    simpa using this
  have hn4 : num (enc r ++ q) 4 = r.e.toNat := by
    have := num_be4 r.e.toNat (by omega) (be4 r.d.length) (r.d ++ last4 (Crc.on 0#32 (be4 r.d.length ++ be4 r.e.toNat ++ r.d)) ++ q)
    rw [be4_len] at this
    unfold enc sealed
    simpa using this
  have hlen : (enc r ++ q).length = r.d.length + 12 + q.length := by rw [List.length_append, enc_len]
  have htake : (enc r ++ q).take (r.d.length + 12) = enc r := by rw [List.take_append_of_le_length (by rw [enc_len]; omega), List.take_of_length_le (by rw [enc_len]; omega)]
  have he : firstErr (enc r ++ q) = 0 := by
    unfold firstErr
    rw [hn0, htake, if_neg (by omega), if_neg (by omega), if_neg (by omega), if_pos (by unfold enc; exact right_sealed _)]
  refine ⟨he, ?_, ?_⟩
  · unfold firstRec
    rw [if_pos he, hn0, hn4]
    have hd : ((enc r ++ q).drop 8).take r.d.length = r.d := by
      unfold enc sealed
      rw [show be4 r.d.length ++ be4 r.e.toNat ++ r.d ++ last4 (Crc.on 0#32 (be4 r.d.length ++ be4 r.e.toNat ++ r.d)) ++ q = (be4 r.d.length ++ be4 r.e.toNat) ++ (r.d ++ (last4 (Crc.on 0#32 (be4 r.d.length ++ be4 r.e.toNat ++ r.d)) ++ q)) by simp]
      rw [show 8 = (be4 r.d.length ++ be4 r.e.toNat).length from rfl, List.drop_left, List.take_left]
    rw [hd]
    have e1 : ((r.e.toNat : Nat) : Int) = r.e := by omega
    rw [e1]
  · unfold firstSize
    rw [if_pos he, hn0]
/-- A record that is cut is none. -/
theorem first_cut (r : Rec) (h1 : r.e ≤ 4294967295) (h0 : 0 ≤ r.e) (h2 : r.d.length ≤ 4096) (k : Nat) (hk : k < r.d.length + 12) : firstErr ((enc r).take k) ≠ 0 := by
  unfold firstErr
  have hl : ((enc r).take k).length = k := by rw [List.length_take, enc_len]; omega
  rw [hl]
  by_cases h8 : k < 8
  · rw [if_pos h8]; decide
  have hn0 : num ((enc r).take k) 0 = r.d.length := by
    have h3 := (first_enc r h0 h1 h2 [])
    have : num ((enc r).take k) 0 = num (enc r) 0 := by
      unfold num
      rw [List.drop_zero, List.drop_zero, List.take_take, Nat.min_eq_left (by omega)]
    rw [this]
    have := num_be4 r.d.length (by omega) [] (be4 r.e.toNat ++ r.d ++ last4 (Crc.on 0#32 (be4 r.d.length ++ be4 r.e.toNat ++ r.d)))
    unfold enc sealed
    simpa using this
  rw [if_neg h8, hn0, if_neg (by omega), if_pos hk]
  decide
theorem first_none : firstErr [] ≠ 0 := by decide
end Go.Proofs.YtpcoleeggeahlaaDoor.Frame
