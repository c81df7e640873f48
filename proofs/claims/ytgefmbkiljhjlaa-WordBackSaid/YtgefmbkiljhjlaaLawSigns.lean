/- The statement WordSigns, walked. -/
import Derived.Test.YtgefmbkiljhjlaaWWorks
namespace Go.Proofs.Ytgefmbkiljhjlaa.Word
open Go Go.Proofs.Ytgefmbkiljhjlaa Go.Proofs.Ytgefmbkiljhjlaa.Eng Go.Proofs
set_option maxRecDepth 10000

theorem signs (n q : Nat) (m P Q : Int) (hP : P = 2 * Q) (hn : (n : Int) < P) (hq : (q : Int) = Q) (hm : m = if n < q then (n : Int) else (n : Int) - P) : ((n : Int) = m ∧ (n : Int) < Q) ∨ ((n : Int) ≠ m ∧ ¬ (n : Int) < Q ∧ (n : Int) - m = P ∧ Q ≤ n) := by
  by_cases h : n < q
  · rw [if_pos h] at hm
    exact .inl ⟨hm.symm, by omega⟩
  · rw [if_neg h] at hm
    exact .inr ⟨by omega, by omega, by omega, by omega⟩
theorem pow_k (k : Int) (h : k = 1 ∨ k = 2 ∨ k = 4) : ∃ P Q : Int, IntKind.i64.wrap (1 * 2 ^ min (IntKind.u64.wrap (IntKind.i64.wrap (8 * k))).toNat IntKind.i64.bits) = P ∧ IntKind.i64.wrap (1 * 2 ^ min (IntKind.u64.wrap (IntKind.i64.wrap (IntKind.i64.wrap (8 * k) - 1))).toNat IntKind.i64.bits) = Q ∧
    P = 2 * Q ∧ 0 < Q ∧ P ≤ 4294967296 ∧ P = ((256 ^ k.toNat : Nat) : Int) ∧ P = 2 ^ (8 * k.toNat) ∧ Q = ((2 ^ (8 * k.toNat - 1) : Nat) : Int) ∧ 0 ≤ IntKind.u64.wrap (IntKind.i64.wrap (8 * k)) ∧ 0 ≤ IntKind.u64.wrap (IntKind.i64.wrap (IntKind.i64.wrap (8 * k) - 1)) := by
  rcases h with rfl | rfl | rfl
  · exact ⟨256, 128, by decide⟩
  · exact ⟨65536, 32768, by decide⟩
  · exact ⟨4294967296, 2147483648, by decide⟩

theorem WordSigns_ok (A : Option Addr) (n c : Nat) (bs : List UInt8) (k : Int) (w : World) (hn : n = bs.length) (hr : Row w A (bvs bs)) (hc : n ≤ c) (ht : c ≤ 9223372036854775807) :
    Calls Try.prog 3 #[.slice A n c, .int .i64 k] w fun e w' => e = .returned (.bool true) ∧ New w w' := by
  subst hn
  refine enter ok Try.func3 rfl rfl rfl ?_
  refine call_ (works_ok w) ?_
  rintro e w0 ⟨b0, rfl, rfl, n0⟩
  refine ⟨_, rfl, ?_⟩
  have a1 := New.alloc w0 (.cells #[.int .i64 1, .int .i64 2, .int .i64 4] 3)
  refine call_ (Base.Among_ok k 3 (w0.alloc (.cells #[.int .i64 1, .int .i64 2, .int .i64 4] 3)) (by omega)) ?_
  rintro e w1 ⟨rfl, hw1⟩
  rw [← hw1] at a1
  have hcells : Row w1 (some ⟨w0.heap.size, 0, none⟩) [.int .i64 1, .int .i64 2, .int .i64 4] := by rw [hw1]; exact row_alloc w0 [.int .i64 1, .int .i64 2, .int .i64 4] _ _
  clear hw1
  have n1 := n0.trans a1
  obtain ⟨j0, j1⟩ := Base.among_lt (x := k) (n := 3) (by omega)
  refine ⟨_, rfl, ?_⟩
  generalize Base.among k 3 = j at j0 j1
  obtain ⟨kk, hkk, hcell⟩ : ∃ kk : Int, (kk = 1 ∨ kk = 2 ∨ kk = 4) ∧ w1.cell? ((⟨w0.heap.size, 0, none⟩ : Addr).add (j.toNat * 1)) = some (.int .i64 kk) := by
    obtain ⟨a, ha, hc⟩ := hcells.at_ j.toNat (by simp; omega)
    cases ha
    rw [Nat.mul_one]
    rcases (by omega : j = 0 ∨ j = 1 ∨ j = 2) with rfl | rfl | rfl
    · exact ⟨1, .inl rfl, hc⟩
    · exact ⟨2, .inr (.inl rfl), hc⟩
    · exact ⟨4, .inr (.inr rfl), hc⟩
  refine And.intro j0 (And.intro (by show j < 3; exact j1) (Exists.intro kk (And.intro hcell ?_)))
  obtain ⟨P, Q, eP, eQ, hPQ, hQ0, hPm, hP256, hP2, hQ2, s1, s2⟩ := pow_k kk hkk
  refine if_p (fun hlt => ⟨rfl, n1⟩) (fun hge => ?_)
  have hwk : wide kk = true := by rcases hkk with rfl | rfl | rfl <;> rfl
  have hk0 : 0 ≤ kk := by omega
  refine call_ (Read_ok A c bs w1 (hr.new n1) hc ht (fun a ha => ?_)) ?_
  · cases bs with
    | nil => exact absurd (show ((0 : Nat) : Int) < kk by omega) hge
    | cons b r => exact (hr.new n1).lt (by simp [bvs]) ha
  rintro e w2 ⟨rfl, rd2, n2, z2⟩
  refine ⟨_, rfl, ?_⟩
  have g1 : get false bs 0 kk = (((be (bs.take kk.toNat) : Nat) : Int), 0, kk.toNat) := by
    unfold get
    rw [if_pos hwk, if_neg (by simpa using hge), if_neg (by simp)]
    have hb := be_lt (bs.take kk.toNat)
    have hl : (bs.take kk.toNat).length = kk.toNat := by rw [List.length_take]; omega
    rw [hl] at hb
    rw [List.drop_zero, if_pos (by omega), Nat.zero_add]
  have g2 : get true bs 0 kk = (sval kk.toNat (be (bs.take kk.toNat)), 0, kk.toNat) := by
    unfold get
    rw [if_pos hwk, if_neg (by simpa using hge), if_pos rfl, List.drop_zero, Nat.zero_add]
  have hU := U_ok w1.heap.size A c bs 0 kk w2 rd2
  rw [g1] at hU
  refine call_ hU ?_
  rintro e w3 ⟨rfl, rd3, m3⟩
  refine ⟨_, rfl, ?_⟩
  have n3 : New w w3 := Mod.trans (n1.trans n2) m3 (by intro i hi e; have := n1.size; omega)
  refine call_ (Read_ok A c bs w3 (hr.new n3) hc ht (fun a ha => ?_)) ?_
  · cases bs with
    | nil => exact absurd (show ((0 : Nat) : Int) < kk by omega) hge
    | cons b r => exact (hr.new n3).lt (by simp [bvs]) ha
  rintro e w4 ⟨rfl, rd4, n4, z4⟩
  refine ⟨_, rfl, ?_⟩
  have hS := S_ok w3.heap.size A c bs 0 kk w4 rd4
  rw [g2] at hS
  refine call_ hS ?_
  rintro e w5 ⟨rfl, rd5, m5⟩
  refine ⟨_, rfl, ?_⟩
  have n5 : New w w5 := Mod.trans (n3.trans n4) m5 (by intro i hi e; have := n3.size; omega)
  have hb := be_lt (bs.take kk.toNat)
  have hl : (bs.take kk.toNat).length = kk.toNat := by rw [List.length_take]; omega
  rw [hl] at hb
  have hsv : sval kk.toNat (be (bs.take kk.toNat)) = if be (bs.take kk.toNat) < 2 ^ (8 * kk.toNat - 1) then ((be (bs.take kk.toNat) : Nat) : Int) else ((be (bs.take kk.toNat) : Nat) : Int) - P := by
    unfold sval
    rw [hP2]
  have key := signs (be (bs.take kk.toNat)) (2 ^ (8 * kk.toNat - 1)) _ P Q hPQ (by rw [hP256]; omega) hQ2.symm hsv
  generalize be (bs.take kk.toNat) = z at key hb
  generalize sval kk.toNat z = m at key
  have hzP : (z : Int) < P := by rw [hP256]; omega
  refine And.intro s1 ?_
  refine if_yes (decide_eq_true (by rw [eP]; exact hzP)) ?_
  rcases key with ⟨e1, e2⟩ | ⟨e1, e2, e3, e4⟩
  · refine if_yes (decide_eq_true e1) ?_
    refine And.intro s2 ?_
    refine if_yes (decide_eq_true (by rw [eQ]; exact e2)) ?_
    exact ⟨rfl, n5⟩
  · refine if_no (decide_eq_false e1) ?_
    refine And.intro s1 ?_
    refine if_yes (decide_eq_true (by rw [eP, wrap_i64 (by omega) (by omega)]; exact e3)) ?_
    refine And.intro s2 ⟨?_, n5⟩
    show Ending.returned (.bool (decide _)) = _
    rw [eQ, decide_eq_true e4]
end Go.Proofs.Ytgefmbkiljhjlaa.Word
