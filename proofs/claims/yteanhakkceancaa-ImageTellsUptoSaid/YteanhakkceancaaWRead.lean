/- The package word, walked: its reader. -/
import Derived.Test.YteanhakkceancaaTab
import Derived.Test.YteanhakkceancaaDraw
import Derived.Test.YteanhakkceancaaWMath
namespace Go.Proofs.Yteanhakkceancaa.Word
open Go Go.Proofs.Yteanhakkceancaa Go.Proofs.Yteanhakkceancaa.Eng Go.Proofs
set_option maxRecDepth 10000

theorem ad (g j : Nat) : ((⟨g, 0, none⟩ : Addr).add 0).add j = ⟨g, j, none⟩ := by rw [add_zero_, Addr.add_lit, Nat.zero_add]
/-- A reader or a writer that was made. -/
def Is (w : World) (p : Option Addr) (b : Bool) : Prop := (p = none ∧ b = false) ∨ ∃ g, p = some ⟨g, 0, none⟩ ∧ w.cell? ⟨g, 2, none⟩ = some (.bool b)
theorem ret_bool {b c : Bool} (h : b = c) : Ending.returned (.bool b) = .returned (.bool c) := by rw [h]
theorem wide_ok (k : Int) (w : World) : Calls Try.prog 81 #[.int .i64 k] w fun e w' => e = .returned (.bool (wide k)) ∧ w' = w := by
  refine enter ok Try.func81 rfl rfl rfl ?_
  refine if_p (fun h => ⟨ret_bool (by simp [wide, h]), rfl⟩) (fun h1 => ?_)
  refine if_p (fun h => ⟨ret_bool (by simp [wide, h]), rfl⟩) (fun h2 => ?_)
  refine if_p (fun h => ⟨ret_bool (by simp [wide, h]), rfl⟩) (fun h3 => ?_)
  refine ⟨?_, rfl⟩
  show Ending.returned (.bool (decide (k = 8))) = _
  simp [wide, h1, h2, h3]
theorem ris_ok (p : Option Addr) (b : Bool) (w : World) (h : Is w p b) : Calls Try.prog 73 #[.pointer p] w fun e w' => e = .returned (.bool b) ∧ w' = w := by
  refine enter ok Try.func73 rfl rfl rfl ?_
  rcases h with ⟨rfl, rfl⟩ | ⟨g, rfl, hc⟩
  · exact ⟨rfl, rfl⟩
  · exact Exists.intro b (And.intro (by rw [ad]; exact hc) ⟨rfl, rfl⟩)
theorem wis_ok (p : Option Addr) (b : Bool) (w : World) (h : Is w p b) : Calls Try.prog 64 #[.pointer p] w fun e w' => e = .returned (.bool b) ∧ w' = w := by
  refine enter ok Try.func64 rfl rfl rfl ?_
  rcases h with ⟨rfl, rfl⟩ | ⟨g, rfl, hc⟩
  · exact ⟨rfl, rfl⟩
  · exact Exists.intro b (And.intro (by rw [ad]; exact hc) ⟨rfl, rfl⟩)

theorem row_modN {S : Nat → Prop} {w w' : World} {A : Option Addr} {bs : List UInt8} (h : Row w A (bvs bs)) (k : Mod S w w') (ha : ∀ a, A = some a → bs ≠ [] → ¬ S a.block) : Row w' A (bvs bs) := by
  intro j u hu
  obtain ⟨a, h1, hc⟩ := h j u hu
  have hne : bs ≠ [] := by
    rintro rfl
    simp [bvs] at hu
  exact ⟨a, h1, k.cell hc (by rw [add_block]; exact ha a h1 hne)⟩
theorem row_low {w : World} {A : Option Addr} {bs : List UInt8} (h : Row w A (bvs bs)) : ∀ a, A = some a → bs ≠ [] → a.block < w.heap.size := fun a ha hb =>
  h.lt (by cases bs with
    | nil => exact absurd rfl hb
    | cons x r => simp [bvs]) ha
/-- A reader in memory: its bytes, its place. -/
structure Rd (w : World) (g : Nat) (A : Option Addr) (c : Nat) (bs : List UInt8) (i : Nat) : Prop where
  blk : w.heap[g]? = some (.cells #[.slice A bs.length c, .int .i64 i, .bool true] 120 (0, 0))
  row : Row w A (bvs bs)
  off : ∀ a, A = some a → bs ≠ [] → a.block ≠ g
  at_ : i ≤ bs.length
  cap : bs.length ≤ c
  top : c ≤ 9223372036854775807
theorem Rd.c0 {w : World} {g : Nat} {A : Option Addr} {c : Nat} {bs : List UInt8} {i : Nat} (h : Rd w g A c bs i) : w.cell? ⟨g, 0, none⟩ = some (.slice A bs.length c) := by
  rw [cell_of_row _ _ 0 _ _ _ h.blk]; rfl
theorem Rd.c1 {w : World} {g : Nat} {A : Option Addr} {c : Nat} {bs : List UInt8} {i : Nat} (h : Rd w g A c bs i) : w.cell? ⟨g, 1, none⟩ = some (.int .i64 i) := by
  rw [cell_of_row _ _ 1 _ _ _ h.blk]; rfl
theorem Rd.is {w : World} {g : Nat} {A : Option Addr} {c : Nat} {bs : List UInt8} {i : Nat} (h : Rd w g A c bs i) : Is w (some ⟨g, 0, none⟩) true :=
  .inr ⟨g, rfl, by rw [cell_of_row _ _ 2 _ _ _ h.blk]; rfl⟩
theorem Rd.new {w w' : World} {g : Nat} {A : Option Addr} {c : Nat} {bs : List UInt8} {i : Nat} (h : Rd w g A c bs i) (k : New w w') : Rd w' g A c bs i :=
  ⟨k.blk h.blk, h.row.new k, h.off, h.at_, h.cap, h.top⟩
theorem Rd.mod {S : Nat → Prop} {w w' : World} {g : Nat} {A : Option Addr} {c : Nat} {bs : List UInt8} {i : Nat} (h : Rd w g A c bs i) (k : Mod S w w') (hg : ¬ S g) (ha : ∀ a, A = some a → ¬ S a.block) : Rd w' g A c bs i :=
  ⟨k.blk h.blk hg, h.row.mod k ha, h.off, h.at_, h.cap, h.top⟩
theorem Rd.lt {w : World} {g : Nat} {A : Option Addr} {c : Nat} {bs : List UInt8} {i : Nat} (h : Rd w g A c bs i) : g < w.heap.size := (Array.getElem?_eq_some_iff.1 h.blk).1
/-- The place is set. -/
theorem Rd.put {w : World} {g : Nat} {A : Option Addr} {c : Nat} {bs : List UInt8} {i : Nat} (h : Rd w g A c bs i) {j : Nat} (hj : j ≤ bs.length) {v : Value} (hv : v = .int .i64 j) :
    Rd (w.setCell ⟨g, 1, none⟩ v) g A c bs j ∧ Mod (fun k => k = g) w (w.setCell ⟨g, 1, none⟩ v) := by
  subst hv
  have m := Mod.set w ⟨g, 1, none⟩ (.int .i64 j)
  refine ⟨⟨?_, row_modN h.row m (fun a ha hb => h.off a ha hb), h.off, hj, h.cap, h.top⟩, m⟩
  have := heap_setCell_same w g 1 _ _ (.int .i64 (j : Int)) h.blk
  rw [this]
  rfl
theorem Rd.fz {w : World} {g : Nat} {A : Option Addr} {c : Nat} {bs : List UInt8} {i : Nat} (h : Rd w g A c bs i) (j : Nat) : w.frozen? ⟨g, j, none⟩ = false := frozen_of_row w g j _ _ h.blk

theorem Read_okN (A : Option Addr) (c : Nat) (bs : List UInt8) (w : World) (hr : Row w A (bvs bs)) (hc : bs.length ≤ c) (ht : c ≤ 9223372036854775807) :
    Calls Try.prog 37 #[.slice A bs.length c] w fun e w' => e = .returned (.pointer (some ⟨w.heap.size, 0, none⟩)) ∧ Rd w' w.heap.size A c bs 0 ∧ New w w' ∧ w'.heap.size = w.heap.size + 1 := by
  refine enter ok Try.func37 rfl rfl rfl ?_
  have n := New.alloc w (.cells #[.slice A bs.length c, .int .i64 0, .bool true] 120)
  exact ⟨rfl, ⟨heap_alloc_new w _, hr.new n, fun a ha hb => Nat.ne_of_lt (row_low hr a ha hb), Nat.zero_le _, hc, ht⟩, n, by simp⟩
theorem Read_ok (A : Option Addr) (c : Nat) (bs : List UInt8) (w : World) (hr : Row w A (bvs bs)) (hc : bs.length ≤ c) (ht : c ≤ 9223372036854775807) (_ : ∀ a, A = some a → a.block < w.heap.size) :
    Calls Try.prog 37 #[.slice A bs.length c] w fun e w' => e = .returned (.pointer (some ⟨w.heap.size, 0, none⟩)) ∧ Rd w' w.heap.size A c bs 0 ∧ New w w' ∧ w'.heap.size = w.heap.size + 1 :=
  Read_okN A c bs w hr hc ht

theorem Left_ok (g : Nat) (A : Option Addr) (c : Nat) (bs : List UInt8) (i : Nat) (w : World) (h : Rd w g A c bs i) : Calls Try.prog 48 #[.pointer (some ⟨g, 0, none⟩)] w fun e w' => e = .returned (.int .i64 ((bs.length : Int) - i)) ∧ New w w' := by
  refine enter ok Try.func48 rfl rfl rfl ?_
  refine call_ (ris_ok _ true w h.is) ?_
  rintro e w' ⟨rfl, rfl⟩
  refine ⟨_, rfl, ?_⟩
  refine draw_ ok (.q 0 (.q 1 (.q 2 (.q 3 (.q 4 (.q 5 (.q 6 (.q 7 (.q 8 (.q 9 (.q 10 (.q 11 (.q 12 .done))))))))))))) [12] (New w') (by kernel_rfl) (by kernel_rfl) (by kernel_rfl) (by kernel_rfl) (by kernel_rfl) (New.drew w') ?_
  refine Exists.intro A (Exists.intro bs.length (Exists.intro c (And.intro (fun w'' hw => by rw [ad]; exact hw.cell h.c0) (Exists.intro (i : Int) (And.intro (fun w'' hw => by rw [ad]; exact hw.cell h.c1) ⟨?_, New.drew w'⟩)))))
  show Ending.returned (.int .i64 (IntKind.i64.wrap _)) = _
  have := h.at_
  have := h.cap
  have := h.top
  rw [wrap_i64 (by omega) (by omega)]
theorem look_ok (g : Nat) (A : Option Addr) (c : Nat) (bs : List UInt8) (i : Nat) (n : Int) (may : Bool) (w : World) (h : Rd w g A c bs i) :
    Calls Try.prog 80 #[.pointer (some ⟨g, 0, none⟩), .int .i64 n, .bool may] w fun e w' => e = .returned (.int .i64 (if may = true then if (bs.length : Int) - i < n then 7 else 0 else 2)) ∧ New w w' := by
  refine enter ok Try.func80 rfl rfl rfl ?_
  refine call_ (ris_ok _ true w h.is) ?_
  rintro e w' ⟨rfl, rfl⟩
  refine ⟨_, rfl, ?_⟩
  cases may with
  | false => exact ⟨rfl, New.refl _⟩
  | true =>
    refine call_ (Left_ok g A c bs i w' h) ?_
    rintro e w2 ⟨rfl, h2⟩
    refine ⟨_, rfl, ?_⟩
    refine if_p (fun hl => ⟨?_, h2⟩) (fun hl => ⟨?_, h2⟩)
    · rw [if_pos rfl, if_pos hl]
      rfl
    · rw [if_pos rfl, if_neg hl]
      rfl

theorem be_take_succ (bs : List UInt8) (i j : Nat) (h : i + j < bs.length) : be ((bs.drop i).take (j + 1)) = be ((bs.drop i).take j) * 256 + (bs.getD (i + j) 0).toNat := by
  have hj : j < (bs.drop i).length := by rw [List.length_drop]; omega
  rw [List.take_succ_eq_append_getElem hj, be_snoc, List.getElem_drop, List.getD_eq_getElem?_getD, List.getElem?_eq_getElem h]
  rfl
/-- The bytes that a number is read from, in memory. -/
theorem cut_cell {w : World} {A : Option Addr} {bs : List UInt8} {c : Nat} (hr : Row w A (bvs bs)) (hc : bs.length ≤ c) (i j : Nat) (h : i + j < bs.length) : ∃ a, slA A c i 1 = some a ∧ w.cell? (a.add (j * 1)) = some (bv (bs.getD (i + j) 0)) := by
  have := hr.cut c i 1 (by rw [bvs_length]; omega)
  rw [Nat.mul_one] at this
  obtain ⟨a, ha, hcell⟩ := this.at_ j (by rw [List.length_drop, bvs_length]; omega)
  refine ⟨a, ha, ?_⟩
  rw [Nat.mul_one, hcell]
  congr 1
  simp [bvs, List.getD_eq_getElem?_getD, List.getElem?_eq_getElem h]

theorem U_ok (g : Nat) (A : Option Addr) (c : Nat) (bs : List UInt8) (i : Nat) (k : Int) (w : World) (h : Rd w g A c bs i) :
    Calls Try.prog 69 #[.pointer (some ⟨g, 0, none⟩), .int .i64 k] w fun e w' => e = .returned (.tuple #[.int .i64 (get false bs i k).1, .int .i64 (get false bs i k).2.1]) ∧ Rd w' g A c bs (get false bs i k).2.2 ∧ Mod (fun b => b = g) w w' := by
  refine enter ok Try.func69 rfl rfl rfl ?_
  refine call_ (wide_ok k w) ?_
  rintro e w' ⟨rfl, rfl⟩
  refine ⟨_, rfl, ?_⟩
  refine call_ (look_ok g A c bs i k (wide k) w' h) ?_
  rintro e w1 ⟨rfl, h1⟩
  refine ⟨_, rfl, ?_⟩
  have hw1 := h.new h1
  have ha := h.at_
  have hb := h.cap
  have hc := h.top
  have e1 : ∀ q : Int, (if wide k = true then if (bs.length : Int) - i < k then 7 else 0 else 2 : Int) = q → q ≠ 0 → get false bs i k = (0, q, i) := by
    intro q hq hne
    unfold get
    by_cases hwk : wide k = true
    · rw [if_pos hwk] at hq ⊢
      by_cases hl : (bs.length : Int) - i < k
      · rw [if_pos hl] at hq ⊢
        rw [hq]
      · rw [if_neg hl] at hq
        exact absurd hq.symm hne
    · rw [if_neg hwk] at hq ⊢
      rw [hq]
  have e2 : (if wide k = true then if (bs.length : Int) - i < k then 7 else 0 else 2 : Int) = 0 → wide k = true ∧ ¬ (bs.length : Int) - i < k := by
    intro hq
    by_cases hwk : wide k = true
    · rw [if_pos hwk] at hq
      by_cases hl : (bs.length : Int) - i < k
      · rw [if_pos hl] at hq
        cases hq
      · exact ⟨hwk, hl⟩
    · rw [if_neg hwk] at hq
      cases hq
  generalize (if wide k = true then if (bs.length : Int) - i < k then 7 else 0 else 2 : Int) = q at e1 e2
  refine if_n (fun hne => ?_) (fun he => ?_)
  · rw [e1 q rfl hne]
    exact ⟨rfl, hw1, h1.mod⟩
  obtain ⟨hwk, hl⟩ := e2 he
  have hk := wide_cases hwk
  obtain ⟨n, rfl⟩ : ∃ n : Nat, k = n := ⟨k.toNat, by omega⟩
  have hn8 : n ≤ 8 := by omega
  have hin : i + n ≤ bs.length := by omega
  have hg : get false bs i (n : Int) = if be ((bs.drop i).take n) < 9223372036854775808 then (((be ((bs.drop i).take n) : Nat) : Int), (0 : Int), i + n) else (0, 3, i) := by
    unfold get
    rw [if_pos hwk, if_neg hl]
    rfl
  have ein : IntKind.i64.wrap ((i : Int) + (n : Int)) = ((i + n : Nat) : Int) := by
    rw [wrap_i64 (by omega) (by omega)]
    omega
  have elen : (IntKind.i64.wrap ((i : Int) + (n : Int))).toNat - (i : Int).toNat = n := by rw [ein]; omega
  refine draw_ ok (.q 0 (.q 1 (.q 2 (.q 3 (.q 4 (.q 5 (.q 6 (.q 7 (.q 8 (.q 9 (.q 10 (.q 11 (.q 12 (.q 13 (.q 14 (.q 15 (.q 16 (.q 17 (.q 18 (.q 19 .done)))))))))))))))))))) [] (New w1) (by kernel_rfl) (by kernel_rfl) (by kernel_rfl) (by kernel_rfl) (by kernel_rfl) (New.drew w1) ?_
  refine Exists.intro A (Exists.intro bs.length (Exists.intro c (And.intro (fun w'' hw => by rw [ad]; exact hw.cell hw1.c0) ?_)))
  refine Exists.intro (i : Int) (And.intro (fun w'' hw => by rw [ad]; exact hw.cell hw1.c1) ?_)
  refine Exists.intro (i : Int) (And.intro (fun w'' hw => by rw [ad]; exact hw.cell hw1.c1) ?_)
  refine And.intro (by omega) (And.intro (by rw [ein]; omega) (And.intro (by rw [ein]; omega) ?_))
  have hw2 := hw1.new (New.drew w1)
  refine den_loop (σ := Nat) (fun j => [(0, .pointer (some ⟨g, 0, none⟩)), (1, .int .i64 n), (7, .int .u64 (be ((bs.drop i).take j))), (35, .slice (slA A c i 1) n (c - i)), (36, .int .i64 n), (37, .int .i64 j)]) (fun m j w' => j ≤ n ∧ m = n - j ∧ w' = w1.drew) n 0 ?_ ⟨Nat.zero_le _, rfl, rfl⟩ ?_
  · refine ⟨rfl, rfl, rfl, ?_, ?_, rfl, trivial⟩
    · show Value.slice _ _ _ = Value.slice _ _ _
      rw [elen]
      rfl
    · show Value.int .i64 _ = Value.int .i64 _
      rw [elen]
  rintro m j w' fr0 ⟨hj, rfl, rfl⟩
  refine if_p (fun hlt => ?_) (fun hge => ?_)
  · obtain ⟨a, hsl, hcell⟩ := cut_cell hw2.row hb i j (by omega)
    refine And.intro (by omega) (And.intro hlt (some_at hsl (Exists.intro _ (And.intro (by rw [Int.toNat_natCast]; exact hcell) ?_))))
    refine And.intro (by decide) ⟨n - (j + 1), j + 1, by omega, ⟨rfl, rfl, ?_, rfl, rfl, ?_, trivial⟩, by omega, rfl, rfl⟩
    · show Value.int .u64 (bits _ _ _ _) = Value.int .u64 _
      have hbt := (bs.getD (i + j) 0).toBitVec.isLt
      have hbe := be_lt8 ((bs.drop i).take (j + 1)) (by rw [List.length_take]; omega)
      rw [be_take_succ bs i j (by omega)] at hbe
      rw [be_take_succ bs i j (by omega), ← or_shl_u _ _ (by exact hbt) hbe]
      rfl
    · show Value.int .i64 (IntKind.i64.wrap _) = _
      rw [wrap_i64 (by omega) (by omega)]
      rfl
  · have : j = n := by omega
    subst this
    have hbe := be_lt8 ((bs.drop i).take j) (by rw [List.length_take]; omega)
    rw [hg]
    refine if_p (fun hneg => ?_) (fun hpos => ?_)
    · rw [IntKind.wrap_i64] at hneg
      rw [if_neg (by omega)]
      exact ⟨rfl, hw2, (h1.trans (New.drew _)).mod⟩
    · rw [IntKind.wrap_i64] at hpos
      have hsm : be ((bs.drop i).take j) < 9223372036854775808 := by omega
      rw [if_pos hsm]
      obtain ⟨hput, hmod⟩ := hw2.put (j := i + j) hin (v := .int .i64 (IntKind.i64.wrap ((i : Int) + (j : Int)))) (by rw [ein])
      refine Exists.intro (i : Int) (And.intro (by rw [ad]; exact hw2.c1) (And.intro ⟨_, by rw [ad]; exact hw2.c1⟩ (And.intro (by rw [ad]; exact hw2.fz 1) ⟨?_, ?_, ?_⟩)))
      · show Ending.returned (.tuple #[.int .i64 (IntKind.i64.wrap _), .int .i64 0]) = _
        rw [wrap_i64 (by omega) (by omega)]
      · rw [ad]
        exact hput
      · rw [ad]
        exact Mod.trans (h1.trans (New.drew _)).mod hmod fun _ _ h => h
end Go.Proofs.Yteanhakkceancaa.Word
