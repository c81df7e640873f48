/- The texts WRead, WWrite, WAll, WMore, WWorks, WRef, WRef2, WRef3, WRef4, WRef5, WPut, Says, KWMath, KPut, Eq, PWalk1, PWalk2, PWalk3, PWalk4, Arr, PWalk5, PWalk6 behind one another, merged by mrg.py; each says in its own place what it proves. -/
import Derived.Test.YtdcaafldnbcdkaaGreatDoorTab
import Derived.Test.YtdcaafldnbcdkaaGreatDoorDraw
import Derived.DeepKeys
import Derived.Test.YtdcaafldnbcdkaaGreatDoorGZ1

/-! ### WRead -/
namespace Go.Proofs.YtdcaafldnbcdkaaGreatDoor.Word
open Go Go.Proofs.YtdcaafldnbcdkaaGreatDoor Go.Proofs.YtdcaafldnbcdkaaGreatDoor.Eng Go.Proofs
set_option maxRecDepth 10000

theorem ad (g j : Nat) : ((⟨g, 0, none⟩ : Addr).add 0).add j = ⟨g, j, none⟩ := by rw [add_zero_, Addr.add_lit, Nat.zero_add]
/-- A reader or a writer that was made. -/
def Is (w : World) (p : Option Addr) (b : Bool) : Prop := (p = none ∧ b = false) ∨ ∃ g, p = some ⟨g, 0, none⟩ ∧ w.cell? ⟨g, 2, none⟩ = some (.bool b)
theorem ret_bool {b c : Bool} (h : b = c) : Ending.returned (.bool b) = .returned (.bool c) := by rw [h]
theorem wide_ok (k : Int) (w : World) : Calls Tryz.prog 81 #[.int .i64 k] w fun e w' => e = .returned (.bool (wide k)) ∧ w' = w := by
  refine enter ok Tryz.func81 rfl rfl rfl ?_
  refine if_p (fun h => ⟨ret_bool (by simp [wide, h]), rfl⟩) (fun h1 => ?_)
  refine if_p (fun h => ⟨ret_bool (by simp [wide, h]), rfl⟩) (fun h2 => ?_)
  refine if_p (fun h => ⟨ret_bool (by simp [wide, h]), rfl⟩) (fun h3 => ?_)
  refine ⟨?_, rfl⟩
  show Ending.returned (.bool (decide (k = 8))) = _
  simp [wide, h1, h2, h3]
theorem ris_ok (p : Option Addr) (b : Bool) (w : World) (h : Is w p b) : Calls Tryz.prog 77 #[.pointer p] w fun e w' => e = .returned (.bool b) ∧ w' = w := by
  refine enter ok Tryz.func77 rfl rfl rfl ?_
  rcases h with ⟨rfl, rfl⟩ | ⟨g, rfl, hc⟩
  · exact ⟨rfl, rfl⟩
  · exact Exists.intro b (And.intro (by rw [ad]; exact hc) ⟨rfl, rfl⟩)
theorem wis_ok (p : Option Addr) (b : Bool) (w : World) (h : Is w p b) : Calls Tryz.prog 92 #[.pointer p] w fun e w' => e = .returned (.bool b) ∧ w' = w := by
  refine enter ok Tryz.func92 rfl rfl rfl ?_
  rcases h with ⟨rfl, rfl⟩ | ⟨g, rfl, hc⟩
  · exact ⟨rfl, rfl⟩
  · exact Exists.intro b (And.intro (by rw [ad]; exact hc) ⟨rfl, rfl⟩)

theorem row_modN {S : Nat → Prop} {w w' : World} {A : Option Addr} {bs : List UInt8} (h : Row w A (bvs bs)) (k : Mod S w w') (ha : ∀ a, A = some a → bs ≠ [] → ¬ S a.block) : Row w' A (bvs bs) := by
  intro j u hu
  obtain ⟨a, h1, hc⟩ := h j u hu
  have hne : bs ≠ [] := by
    rintro rfl
    simp [bvs] at hu
  exact ⟨a, h1, k.cell hc (by rw [add_block]; exact ha a h1 hne)⟩
theorem row_low {w : World} {A : Option Addr} {bs : List UInt8} (h : Row w A (bvs bs)) : ∀ a, A = some a → bs ≠ [] → a.block < w.heap.size := fun a ha hb =>
  h.lt (by cases bs with
    | nil => exact absurd rfl hb
    | cons x r => simp [bvs]) ha
/-- A reader in memory: its bytes, its place. -/
structure Rd (w : World) (g : Nat) (A : Option Addr) (c : Nat) (bs : List UInt8) (i : Nat) : Prop where
  blk : w.heap[g]? = some (.cells #[.slice A bs.length c, .int .i64 i, .bool true] 78 (0, 0))
  row : Row w A (bvs bs)
  off : ∀ a, A = some a → bs ≠ [] → a.block ≠ g
  at_ : i ≤ bs.length
  cap : bs.length ≤ c
  top : c ≤ 9223372036854775807
theorem Rd.c0 {w : World} {g : Nat} {A : Option Addr} {c : Nat} {bs : List UInt8} {i : Nat} (h : Rd w g A c bs i) : w.cell? ⟨g, 0, none⟩ = some (.slice A bs.length c) := by
  rw [cell_of_row _ _ 0 _ _ _ h.blk]; rfl
theorem Rd.c1 {w : World} {g : Nat} {A : Option Addr} {c : Nat} {bs : List UInt8} {i : Nat} (h : Rd w g A c bs i) : w.cell? ⟨g, 1, none⟩ = some (.int .i64 i) := by
  rw [cell_of_row _ _ 1 _ _ _ h.blk]; rfl
theorem Rd.is {w : World} {g : Nat} {A : Option Addr} {c : Nat} {bs : List UInt8} {i : Nat} (h : Rd w g A c bs i) : Is w (some ⟨g, 0, none⟩) true :=
  .inr ⟨g, rfl, by rw [cell_of_row _ _ 2 _ _ _ h.blk]; rfl⟩
theorem Rd.new {w w' : World} {g : Nat} {A : Option Addr} {c : Nat} {bs : List UInt8} {i : Nat} (h : Rd w g A c bs i) (k : New w w') : Rd w' g A c bs i :=
  ⟨k.blk h.blk, h.row.new k, h.off, h.at_, h.cap, h.top⟩
theorem Rd.mod {S : Nat → Prop} {w w' : World} {g : Nat} {A : Option Addr} {c : Nat} {bs : List UInt8} {i : Nat} (h : Rd w g A c bs i) (k : Mod S w w') (hg : ¬ S g) (ha : ∀ a, A = some a → ¬ S a.block) : Rd w' g A c bs i :=
  ⟨k.blk h.blk hg, h.row.mod k ha, h.off, h.at_, h.cap, h.top⟩
theorem Rd.lt {w : World} {g : Nat} {A : Option Addr} {c : Nat} {bs : List UInt8} {i : Nat} (h : Rd w g A c bs i) : g < w.heap.size := (Array.getElem?_eq_some_iff.1 h.blk).1
/-- The place is set. -/
theorem Rd.put {w : World} {g : Nat} {A : Option Addr} {c : Nat} {bs : List UInt8} {i : Nat} (h : Rd w g A c bs i) {j : Nat} (hj : j ≤ bs.length) {v : Value} (hv : v = .int .i64 j) :
    Rd (w.setCell ⟨g, 1, none⟩ v) g A c bs j ∧ Mod (fun k => k = g) w (w.setCell ⟨g, 1, none⟩ v) := by
  subst hv
  have m := Mod.set w ⟨g, 1, none⟩ (.int .i64 j)
  refine ⟨⟨?_, row_modN h.row m (fun a ha hb => h.off a ha hb), h.off, hj, h.cap, h.top⟩, m⟩
  have := heap_setCell_same w g 1 _ _ (.int .i64 (j : Int)) h.blk
  rw [this]
  rfl
theorem Rd.fz {w : World} {g : Nat} {A : Option Addr} {c : Nat} {bs : List UInt8} {i : Nat} (h : Rd w g A c bs i) (j : Nat) : w.frozen? ⟨g, j, none⟩ = false := frozen_of_row w g j _ _ h.blk

theorem Read_okN (A : Option Addr) (c : Nat) (bs : List UInt8) (w : World) (hr : Row w A (bvs bs)) (hc : bs.length ≤ c) (ht : c ≤ 9223372036854775807) :
    Calls Tryz.prog 10 #[.slice A bs.length c] w fun e w' => e = .returned (.pointer (some ⟨w.heap.size, 0, none⟩)) ∧ Rd w' w.heap.size A c bs 0 ∧ New w w' ∧ w'.heap.size = w.heap.size + 1 := by
  refine enter ok Tryz.func10 rfl rfl rfl ?_
  have n := New.alloc w (.cells #[.slice A bs.length c, .int .i64 0, .bool true] 78)
  exact ⟨rfl, ⟨heap_alloc_new w _, hr.new n, fun a ha hb => Nat.ne_of_lt (row_low hr a ha hb), Nat.zero_le _, hc, ht⟩, n, by simp⟩
theorem Read_ok (A : Option Addr) (c : Nat) (bs : List UInt8) (w : World) (hr : Row w A (bvs bs)) (hc : bs.length ≤ c) (ht : c ≤ 9223372036854775807) (_ : ∀ a, A = some a → a.block < w.heap.size) :
    Calls Tryz.prog 10 #[.slice A bs.length c] w fun e w' => e = .returned (.pointer (some ⟨w.heap.size, 0, none⟩)) ∧ Rd w' w.heap.size A c bs 0 ∧ New w w' ∧ w'.heap.size = w.heap.size + 1 :=
  Read_okN A c bs w hr hc ht

theorem Left_ok (g : Nat) (A : Option Addr) (c : Nat) (bs : List UInt8) (i : Nat) (w : World) (h : Rd w g A c bs i) : Calls Tryz.prog 78 #[.pointer (some ⟨g, 0, none⟩)] w fun e w' => e = .returned (.int .i64 ((bs.length : Int) - i)) ∧ New w w' := by
  refine enter ok Tryz.func78 rfl rfl rfl ?_
  refine call_ (ris_ok _ true w h.is) ?_
  rintro e w' ⟨rfl, rfl⟩
  refine ⟨_, rfl, ?_⟩
  refine draw_ ok (.q 0 (.q 1 (.q 2 (.q 3 (.q 4 (.q 5 (.q 6 (.q 7 (.q 8 (.q 9 (.q 10 (.q 11 (.q 12 .done))))))))))))) [12] (New w') (by kernel_rfl) (by kernel_rfl) (by kernel_rfl) (by kernel_rfl) (by kernel_rfl) (New.drew w') ?_
  refine Exists.intro A (Exists.intro bs.length (Exists.intro c (And.intro (fun w'' hw => by rw [ad]; exact hw.cell h.c0) (Exists.intro (i : Int) (And.intro (fun w'' hw => by rw [ad]; exact hw.cell h.c1) ⟨?_, New.drew w'⟩)))))
  show Ending.returned (.int .i64 (IntKind.i64.wrap _)) = _
  have := h.at_
  have := h.cap
  have := h.top
  rw [wrap_i64 (by omega) (by omega)]
theorem look_ok (g : Nat) (A : Option Addr) (c : Nat) (bs : List UInt8) (i : Nat) (n : Int) (may : Bool) (w : World) (h : Rd w g A c bs i) :
    Calls Tryz.prog 34 #[.pointer (some ⟨g, 0, none⟩), .int .i64 n, .bool may] w fun e w' => e = .returned (.int .i64 (if may = true then if (bs.length : Int) - i < n then 7 else 0 else 2)) ∧ New w w' := by
  refine enter ok Tryz.func34 rfl rfl rfl ?_
  refine call_ (ris_ok _ true w h.is) ?_
  rintro e w' ⟨rfl, rfl⟩
  refine ⟨_, rfl, ?_⟩
  cases may with
  | false => exact ⟨rfl, New.refl _⟩
  | true =>
    refine call_ (Left_ok g A c bs i w' h) ?_
    rintro e w2 ⟨rfl, h2⟩
    refine ⟨_, rfl, ?_⟩
    refine if_p (fun hl => ⟨?_, h2⟩) (fun hl => ⟨?_, h2⟩)
    · rw [if_pos rfl, if_pos hl]
      rfl
    · rw [if_pos rfl, if_neg hl]
      rfl

theorem be_take_succ (bs : List UInt8) (i j : Nat) (h : i + j < bs.length) : be ((bs.drop i).take (j + 1)) = be ((bs.drop i).take j) * 256 + (bs.getD (i + j) 0).toNat := by
  have hj : j < (bs.drop i).length := by rw [List.length_drop]; omega
  rw [List.take_succ_eq_append_getElem hj, be_snoc, List.getElem_drop, List.getD_eq_getElem?_getD, List.getElem?_eq_getElem h]
  rfl
/-- The bytes that a number is read from, in memory. -/
theorem cut_cell {w : World} {A : Option Addr} {bs : List UInt8} {c : Nat} (hr : Row w A (bvs bs)) (hc : bs.length ≤ c) (i j : Nat) (h : i + j < bs.length) : ∃ a, slA A c i 1 = some a ∧ w.cell? (a.add (j * 1)) = some (bv (bs.getD (i + j) 0)) := by
  have := hr.cut c i 1 (by rw [bvs_length]; omega)
  rw [Nat.mul_one] at this
  obtain ⟨a, ha, hcell⟩ := this.at_ j (by rw [List.length_drop, bvs_length]; omega)
  refine ⟨a, ha, ?_⟩
  rw [Nat.mul_one, hcell]
  congr 1
  simp [bvs, List.getD_eq_getElem?_getD, List.getElem?_eq_getElem h]

theorem U_ok (g : Nat) (A : Option Addr) (c : Nat) (bs : List UInt8) (i : Nat) (k : Int) (w : World) (h : Rd w g A c bs i) :
    Calls Tryz.prog 39 #[.pointer (some ⟨g, 0, none⟩), .int .i64 k] w fun e w' => e = .returned (.tuple #[.int .i64 (get false bs i k).1, .int .i64 (get false bs i k).2.1]) ∧ Rd w' g A c bs (get false bs i k).2.2 ∧ Mod (fun b => b = g) w w' := by
  refine enter ok Tryz.func39 rfl rfl rfl ?_
  refine call_ (wide_ok k w) ?_
  rintro e w' ⟨rfl, rfl⟩
  refine ⟨_, rfl, ?_⟩
  refine call_ (look_ok g A c bs i k (wide k) w' h) ?_
  rintro e w1 ⟨rfl, h1⟩
  refine ⟨_, rfl, ?_⟩
  have hw1 := h.new h1
  have ha := h.at_
  have hb := h.cap
  have hc := h.top
  have e1 : ∀ q : Int, (if wide k = true then if (bs.length : Int) - i < k then 7 else 0 else 2 : Int) = q → q ≠ 0 → get false bs i k = (0, q, i) := by
    intro q hq hne
    unfold get
    by_cases hwk : wide k = true
    · rw [if_pos hwk] at hq ⊢
      by_cases hl : (bs.length : Int) - i < k
      · rw [if_pos hl] at hq ⊢
        rw [hq]
      · rw [if_neg hl] at hq
        exact absurd hq.symm hne
    · rw [if_neg hwk] at hq ⊢
      rw [hq]
  have e2 : (if wide k = true then if (bs.length : Int) - i < k then 7 else 0 else 2 : Int) = 0 → wide k = true ∧ ¬ (bs.length : Int) - i < k := by
    intro hq
    by_cases hwk : wide k = true
    · rw [if_pos hwk] at hq
      by_cases hl : (bs.length : Int) - i < k
      · rw [if_pos hl] at hq
        cases hq
      · exact ⟨hwk, hl⟩
    · rw [if_neg hwk] at hq
      cases hq
  generalize (if wide k = true then if (bs.length : Int) - i < k then 7 else 0 else 2 : Int) = q at e1 e2
  refine if_n (fun hne => ?_) (fun he => ?_)
  · rw [e1 q rfl hne]
    exact ⟨rfl, hw1, h1.mod⟩
  obtain ⟨hwk, hl⟩ := e2 he
  have hk := wide_cases hwk
  obtain ⟨n, rfl⟩ : ∃ n : Nat, k = n := ⟨k.toNat, by omega⟩
  have hn8 : n ≤ 8 := by omega
  have hin : i + n ≤ bs.length := by omega
  have hg : get false bs i (n : Int) = if be ((bs.drop i).take n) < 9223372036854775808 then (((be ((bs.drop i).take n) : Nat) : Int), (0 : Int), i + n) else (0, 3, i) := by
    unfold get
    rw [if_pos hwk, if_neg hl]
    rfl
  have ein : IntKind.i64.wrap ((i : Int) + (n : Int)) = ((i + n : Nat) : Int) := by
    rw [wrap_i64 (by omega) (by omega)]
    omega
  have elen : (IntKind.i64.wrap ((i : Int) + (n : Int))).toNat - (i : Int).toNat = n := by rw [ein]; omega
  refine draw_ ok (.q 0 (.q 1 (.q 2 (.q 3 (.q 4 (.q 5 (.q 6 (.q 7 (.q 8 (.q 9 (.q 10 (.q 11 (.q 12 (.q 13 (.q 14 (.q 15 (.q 16 (.q 17 (.q 18 (.q 19 .done)))))))))))))))))))) [] (New w1) (by kernel_rfl) (by kernel_rfl) (by kernel_rfl) (by kernel_rfl) (by kernel_rfl) (New.drew w1) ?_
  refine Exists.intro A (Exists.intro bs.length (Exists.intro c (And.intro (fun w'' hw => by rw [ad]; exact hw.cell hw1.c0) ?_)))
  refine Exists.intro (i : Int) (And.intro (fun w'' hw => by rw [ad]; exact hw.cell hw1.c1) ?_)
  refine Exists.intro (i : Int) (And.intro (fun w'' hw => by rw [ad]; exact hw.cell hw1.c1) ?_)
  refine And.intro (by omega) (And.intro (by rw [ein]; omega) (And.intro (by rw [ein]; omega) ?_))
  have hw2 := hw1.new (New.drew w1)
  refine den_loop (σ := Nat) (fun j => [(0, .pointer (some ⟨g, 0, none⟩)), (1, .int .i64 n), (7, .int .u64 (be ((bs.drop i).take j))), (35, .slice (slA A c i 1) n (c - i)), (36, .int .i64 n), (37, .int .i64 j)]) (fun m j w' => j ≤ n ∧ m = n - j ∧ w' = w1.drew) n 0 ?_ ⟨Nat.zero_le _, rfl, rfl⟩ ?_
  · refine ⟨rfl, rfl, rfl, ?_, ?_, rfl, trivial⟩
    · show Value.slice _ _ _ = Value.slice _ _ _
      rw [elen]
      rfl
    · show Value.int .i64 _ = Value.int .i64 _
      rw [elen]
  rintro m j w' fr0 ⟨hj, rfl, rfl⟩
  refine if_p (fun hlt => ?_) (fun hge => ?_)
  · obtain ⟨a, hsl, hcell⟩ := cut_cell hw2.row hb i j (by omega)
    refine And.intro (by omega) (And.intro hlt (some_at hsl (Exists.intro _ (And.intro (by rw [Int.toNat_natCast]; exact hcell) ?_))))
    refine And.intro (by decide) ⟨n - (j + 1), j + 1, by omega, ⟨rfl, rfl, ?_, rfl, rfl, ?_, trivial⟩, by omega, rfl, rfl⟩
    · show Value.int .u64 (bits _ _ _ _) = Value.int .u64 _
      have hbt := (bs.getD (i + j) 0).toBitVec.isLt
      have hbe := be_lt8 ((bs.drop i).take (j + 1)) (by rw [List.length_take]; omega)
      rw [be_take_succ bs i j (by omega)] at hbe
      rw [be_take_succ bs i j (by omega), ← or_shl_u _ _ (by exact hbt) hbe]
      rfl
    · show Value.int .i64 (IntKind.i64.wrap _) = _
      rw [wrap_i64 (by omega) (by omega)]
      rfl
  · have : j = n := by omega
    subst this
    have hbe := be_lt8 ((bs.drop i).take j) (by rw [List.length_take]; omega)
    rw [hg]
    refine if_p (fun hneg => ?_) (fun hpos => ?_)
    · rw [IntKind.wrap_i64] at hneg
      rw [if_neg (by omega)]
      exact ⟨rfl, hw2, (h1.trans (New.drew _)).mod⟩
    · rw [IntKind.wrap_i64] at hpos
      have hsm : be ((bs.drop i).take j) < 9223372036854775808 := by omega
      rw [if_pos hsm]
      obtain ⟨hput, hmod⟩ := hw2.put (j := i + j) hin (v := .int .i64 (IntKind.i64.wrap ((i : Int) + (j : Int)))) (by rw [ein])
      refine Exists.intro (i : Int) (And.intro (by rw [ad]; exact hw2.c1) (And.intro ⟨_, by rw [ad]; exact hw2.c1⟩ (And.intro (by rw [ad]; exact hw2.fz 1) ⟨?_, ?_, ?_⟩)))
      · show Ending.returned (.tuple #[.int .i64 (IntKind.i64.wrap _), .int .i64 0]) = _
        rw [wrap_i64 (by omega) (by omega)]
      · rw [ad]
        exact hput
      · rw [ad]
        exact Mod.trans (h1.trans (New.drew _)).mod hmod fun _ _ h => h
end Go.Proofs.YtdcaafldnbcdkaaGreatDoor.Word

/-! ### WWrite -/
namespace Go.Proofs.YtdcaafldnbcdkaaGreatDoor.Word
open Go Go.Proofs.YtdcaafldnbcdkaaGreatDoor Go.Proofs.YtdcaafldnbcdkaaGreatDoor.Eng Go.Proofs
set_option maxRecDepth 10000

theorem bvs_one (bs : List UInt8) : ∀ u ∈ bvs bs, u.oneCell' = true := by
  intro u hu
  obtain ⟨b, _, rfl⟩ := List.mem_map.1 hu
  rfl
theorem bvs_set (bs : List UInt8) (k : Nat) (x : UInt8) : (bvs bs).set k (bv x) = bvs (bs.set k x) := by
  unfold bvs
  rw [List.map_set]
theorem bvs_append (a b : List UInt8) : bvs (a ++ b) = bvs a ++ bvs b := List.map_append ..
theorem wrap_byte (z : Int) : Value.int .u8 (IntKind.u8.wrap z) = bv (UInt8.ofNat (z % 256).toNat) := by
  unfold bv
  rw [wrap_u8, UInt8.toNat_ofNat']
  congr 1
  omega

/-- A writer in memory: its bytes are a row of its own. -/
structure Wr (w : World) (base g : Nat) (v : Value) (bs : List UInt8) : Prop where
  blk : w.heap[g]? = some (.cells #[v, .int .i64 0, .bool true] 146 (0, 0))
  own : w.ownsRow base 5 1 v bs.length (bvs bs)
  off : v.ownBlock ≠ some g
theorem Wr.c0 {w : World} {base g : Nat} {v : Value} {bs : List UInt8} (h : Wr w base g v bs) : w.cell? ⟨g, 0, none⟩ = some v := by
  rw [cell_of_row _ _ 0 _ _ _ h.blk]; rfl
theorem Wr.is {w : World} {base g : Nat} {v : Value} {bs : List UInt8} (h : Wr w base g v bs) : Is w (some ⟨g, 0, none⟩) true :=
  .inr ⟨g, rfl, by rw [cell_of_row _ _ 2 _ _ _ h.blk]; rfl⟩
theorem Wr.lt {w : World} {base g : Nat} {v : Value} {bs : List UInt8} (h : Wr w base g v bs) : g < w.heap.size := (Array.getElem?_eq_some_iff.1 h.blk).1
theorem Wr.mod {S : Nat → Prop} {w w' : World} {base g : Nat} {v : Value} {bs : List UInt8} (h : Wr w base g v bs) (k : Mod S w w') (hg : ¬ S g) (hv : ∀ b, v.ownBlock = some b → ¬ S b) : Wr w' base g v bs :=
  ⟨k.blk h.blk hg, own_mod k h.own hv, h.off⟩
theorem Wr.new {w w' : World} {base g : Nat} {v : Value} {bs : List UInt8} (h : Wr w base g v bs) (k : New w w') : Wr w' base g v bs := h.mod k (fun h => h) fun _ _ h => h
theorem Wr.fz {w : World} {base g : Nat} {v : Value} {bs : List UInt8} (h : Wr w base g v bs) (j : Nat) : w.frozen? ⟨g, j, none⟩ = false := frozen_of_row w g j _ _ h.blk
/-- The writer's bytes are set anew. -/
theorem Wr.set {w : World} {base g : Nat} {v v' : Value} {bs : List UInt8} (hb : w.heap[g]? = some (.cells #[v, .int .i64 0, .bool true] 146 (0, 0))) (hown : w.ownsRow base 5 1 v' bs.length (bvs bs)) (hoff : v'.ownBlock ≠ some g) : Wr (w.setCell ⟨g, 0, none⟩ v') base g v' bs ∧ Mod (fun k => k = g) w (w.setCell ⟨g, 0, none⟩ v') := by
  have m := Mod.set w ⟨g, 0, none⟩ v'
  refine ⟨⟨?_, own_mod m hown (fun b hb e => hoff (by rw [hb]; exact congrArg some e)), hoff⟩, m⟩
  rw [heap_setCell_same w g 0 _ _ v' hb]
  rfl

theorem Make_ok (w : World) : Calls Tryz.prog 47 #[] w fun e w' => e = .returned (.pointer (some ⟨w.heap.size, 0, none⟩)) ∧ Wr w' w.heap.size w.heap.size (.slice none 0 0) [] ∧ New w w' ∧ w'.heap.size = w.heap.size + 1 := by
  refine enter ok Tryz.func47 rfl rfl rfl ?_
  have n := New.alloc w (.cells #[.slice none 0 0, .int .i64 0, .bool true] 146)
  exact ⟨rfl, ⟨heap_alloc_new w _, ⟨rfl, .inl ⟨rfl, rfl⟩⟩, by simp [Value.ownBlock]⟩, n, by simp⟩

/-- A number put in its place. -/
theorem put_ok (base g : Nat) (v : Value) (bs : List UInt8) (a k : Nat) (n a' : Int) (ha : a' = (a : Int)) (w : World) (h : Wr w base g v bs) (hk : k ≤ 8) (hak : a + k ≤ bs.length) (hm : bs.length ≤ 140737488355328) :
    Calls Tryz.prog 108 #[.pointer (some ⟨g, 0, none⟩), .int .i64 a', .int .i64 k, .int .i64 n] w fun e w' => e = .returned (.tuple #[]) ∧ Wr w' base g v (patch bs a k n) ∧ Mod (fun b => some b = v.ownBlock) w w' := by
  subst ha
  refine enter ok Tryz.func108 rfl rfl rfl ?_
  refine den_loop (σ := Nat) (fun i => [(0, .pointer (some ⟨g, 0, none⟩)), (1, .int .i64 a), (2, .int .i64 k), (3, .int .i64 n), (9, .int .i64 k), (10, .int .i64 i)])
    (fun m i w' => i ≤ k ∧ m = k - i ∧ Wr w' base g v (puts bs a (encAt k n) i) ∧ Mod (fun b => some b = v.ownBlock) w w') k 0 ⟨rfl, rfl, rfl, rfl, rfl, rfl, trivial⟩ ⟨Nat.zero_le _, rfl, h, Mod.refl _ _⟩ ?_
  rintro m i wl fr0 ⟨hi, rfl, hw, hl⟩
  refine if_p (fun hlt => ?_) (fun hge => ?_)
  · have hpl := puts_length bs a (encAt k n) i
    obtain ⟨q, c, rfl, _⟩ := own_pos hw.own (by rw [hpl]; omega)
    refine draw_ ok (.q 0 (.q 1 (.q 2 (.q 3 (.q 4 (.q 5 (.q 6 (.q 7 (.q 8 (.q 9 (.q 10 (.q 11 (.q 12 (.q 13 (.q 14 (.q 15 (.q 16 (.e 17 .done)))))))))))))))))) [17] (New wl) (by kernel_rfl) (by kernel_rfl) (by kernel_rfl) (by kernel_rfl) (by kernel_rfl) (New.drew wl) ?_
    have e1 : IntKind.i64.wrap ((a : Int) + (i : Int)) = ((a + i : Nat) : Int) := by rw [wrap_i64 (by omega) (by omega)]; omega
    have e2 : IntKind.i64.wrap (8 * IntKind.i64.wrap (IntKind.i64.wrap ((k : Int) - 1) - (i : Int))) = ((8 * (k - 1 - i) : Nat) : Int) := by
      rw [wrap_i64 (n := (k : Int) - 1) (by omega) (by omega), wrap_i64 (n := (k : Int) - 1 - i) (by omega) (by omega), wrap_i64 (by omega) (by omega)]
      omega
    have e0 : (⟨q, 0, none⟩ : Addr).add ((IntKind.i64.wrap ((a : Int) + (i : Int))).toNat * 1) = ⟨q, a + i, none⟩ := by rw [e1, Nat.mul_one, Addr.add_lit, Nat.zero_add, Int.toNat_natCast]
    have hai : a + i < (bvs (puts bs a (encAt k n) i)).length := by rw [bvs_length, hpl]; omega
    have hw2 := hw.new (New.drew wl)
    obtain ⟨hc, hf, hst⟩ := own_store hw2.own (a + i) hai
    refine Exists.intro (some ⟨q, 0, none⟩) (Exists.intro _ (Exists.intro c (And.intro (fun w'' hw' => by rw [ad]; exact hw'.cell hw.c0) ?_)))
    refine And.intro (by rw [e2]; omega) (And.intro (by rw [e1]; omega) (And.intro (by rw [e1, hpl]; omega) ?_))
    refine And.intro ⟨_, by rw [e0]; exact hc⟩ (And.intro (by rw [e0]; exact hf) ?_)
    have ev : Value.int .u8 (IntKind.u8.wrap (n / 2 ^ min (IntKind.i64.wrap (8 * IntKind.i64.wrap (IntKind.i64.wrap ((k : Int) - 1) - (i : Int)))).toNat IntKind.i64.bits)) = bv (encAt k n i) := by
      rw [wrap_byte, e2, Int.toNat_natCast, Nat.min_eq_left (by show 8 * (k - 1 - i) ≤ 64; omega)]
      rfl
    obtain ⟨own5, mod5⟩ := hst (bv (encAt k n i))
    rw [bvs_set] at own5
    have hg : q ≠ g := fun e => hw.off (by simp [Value.ownBlock, e])
    refine ⟨k - (i + 1), i + 1, by omega, ⟨rfl, rfl, rfl, rfl, rfl, ?_, trivial⟩, by omega, rfl, ?_, ?_⟩
    · show Value.int .i64 (IntKind.i64.wrap _) = _
      rw [wrap_i64 (by omega) (by omega)]
      rfl
    · rw [e0, ev]
      refine ⟨mod5.blk hw2.blk (fun e => hg e.symm), ?_, hw.off⟩
      have e : (puts bs a (encAt k n) (i + 1)).length = (puts bs a (encAt k n) i).length := by rw [puts_length, puts_length]
      rw [e]
      exact own5
    · rw [e0, ev]
      exact Mod.trans (hl.new (New.drew wl)) mod5 fun b _ e => by subst e; rfl
  · have : i = k := by omega
    subst this
    refine ⟨rfl, ?_, hl⟩
    rw [puts_eq _ _ _ _ hak] at hw
    exact hw

/-! ### Which numbers fit -/
theorem fits_ok (k n : Int) (sign : Bool) (w : World) (hk : wide k = true) : Calls Tryz.prog 107 #[.int .i64 k, .int .i64 n, .bool sign] w fun e w' => e = .returned (.bool (fits k n sign)) ∧ w' = w := by
  refine enter ok Tryz.func107 rfl rfl rfl ?_
  refine if_p (fun h8 => ?_) (fun h8 => ?_)
  · subst h8
    cases sign with
    | true => exact ⟨rfl, rfl⟩
    | false => exact ⟨ret_bool (by simp [fits]), rfl⟩
  · have hk := wide_cases hk
    have e1 : IntKind.i64.wrap (8 * k) = 8 * k := wrap_i64 (by omega) (by omega)
    have e2 : IntKind.i64.wrap (IntKind.i64.wrap (8 * k) - 1) = 8 * k - 1 := by rw [e1]; exact wrap_i64 (by omega) (by omega)
    have m1 : min (IntKind.i64.wrap (8 * k)).toNat IntKind.i64.bits = 8 * k.toNat := by rw [e1]; show min _ 64 = _; omega
    have m2 : min (IntKind.i64.wrap (IntKind.i64.wrap (8 * k) - 1)).toNat IntKind.i64.bits = 8 * k.toNat - 1 := by rw [e2]; show min _ 64 = _; omega
    cases sign with
    | true =>
      refine And.intro (by rw [e2]; omega) ?_
      refine if_p (fun h => ?_) (fun h => ?_)
      · refine ⟨ret_bool ?_, rfl⟩
        rw [m2] at h
        simp [fits, h8, h]
      · refine And.intro (by rw [e2]; omega) ⟨ret_bool ?_, rfl⟩
        rw [m2] at h ⊢
        simp [fits, h8, h]
    | false =>
      refine And.intro (by rw [e1]; omega) ⟨ret_bool ?_, rfl⟩
      rw [m1]
      simp [fits, h8]
theorem unfit_ok (n k : Int) (sign : Bool) (K S : Addr) (w : World) (hK : w.cell? K = some (.int .i64 k)) (hS : w.cell? S = some (.bool sign)) (hk : wide k = true) :
    Calls Tryz.prog 106 #[.int .i64 n, .pointer (some K), .pointer (some S)] w fun e w' => e = .returned (.bool (!fits k n sign)) ∧ w' = w := by
  refine enter ok Tryz.func106 rfl rfl rfl ?_
  refine Exists.intro k (And.intro hK (Exists.intro sign (And.intro hS ?_)))
  refine call_ (fits_ok k n sign w hk) ?_
  rintro e w' ⟨rfl, rfl⟩
  exact ⟨_, rfl, rfl, rfl⟩
theorem index_ok (C : Option Addr) (q qc : Nat) (zs : List Int) (k : Int) (sign : Bool) (K S : Addr) (w : World) (hq : q = zs.length) (hz : Row w C (ivs zs)) (hm : q ≤ 140737488355328) (hK : w.cell? K = some (.int .i64 k)) (hS : w.cell? S = some (.bool sign)) (hk : wide k = true) :
    Calls Tryz.prog 119 #[.slice C q qc, .func (.func 106) #[] #[.pointer (some K), .pointer (some S)]] w fun e w' => ∃ z : Int, e = .returned (.int .i64 z) ∧ decide (0 ≤ z) = zs.any (fun n => !fits k n sign) ∧ w' = w := by
  refine enter ok Tryz.func119 rfl rfl rfl ?_
  refine den_loop (σ := Nat) (fun i => [(0, .slice C q qc), (1, .func (.func 106) #[] #[.pointer (some K), .pointer (some S)]), (4, .int .i64 (if i = 0 then 0 else 0)), (7, .int .i64 q), (8, .int .i64 i)])
    (fun m i w' => i ≤ q ∧ m = q - i ∧ (zs.take i).any (fun n => !fits k n sign) = false ∧ w' = w) q 0 ⟨rfl, rfl, rfl, rfl, rfl, trivial⟩ ⟨Nat.zero_le _, rfl, by simp, rfl⟩ ?_
  rintro m i w' fr0 ⟨hi, rfl, hno, rfl⟩
  refine if_p (fun hlt => ?_) (fun hge => ?_)
  · have hi' : i < zs.length := by omega
    obtain ⟨a, rfl, hc⟩ := hz.at_ i (by simp [ivs]; omega)
    have hzv : (ivs zs)[i]'(by simp [ivs]; omega) = .int .i64 zs[i] := by simp [ivs]
    rw [hzv] at hc
    refine And.intro (by omega) (And.intro hlt (some_at rfl (Exists.intro _ (And.intro (by rw [Nat.mul_one, Int.toNat_natCast]; exact hc) ?_))))
    refine call_ (unfit_ok zs[i] k sign K S w' hK hS hk) ?_
    rintro e w2 ⟨rfl, rfl⟩
    refine ⟨_, rfl, ?_⟩
    refine if_ (fun hu => ?_) (fun hu => ?_)
    · refine ⟨_, rfl, ?_, rfl⟩
      rw [decide_eq_true (show (0 : Int) ≤ i by omega)]
      exact (List.any_eq_true.mpr ⟨zs[i], List.getElem_mem hi', hu⟩).symm
    · refine ⟨q - (i + 1), i + 1, by omega, ⟨rfl, rfl, ?_, rfl, ?_, trivial⟩, by omega, rfl, ?_, rfl⟩
      · show Value.int .i64 _ = Value.int .i64 _
        split <;> rfl
      · show Value.int .i64 (IntKind.i64.wrap _) = _
        rw [wrap_i64 (by omega) (by omega)]
        rfl
      · rw [List.take_succ_eq_append_getElem hi', List.any_append, hno, Bool.false_or, List.any_cons, List.any_nil, Bool.or_false]
        exact hu
  · have : i = q := by omega
    subst this
    rw [hq, List.take_length] at hno
    exact ⟨_, rfl, by rw [hno]; rfl, rfl⟩
theorem contains_ok (C : Option Addr) (q qc : Nat) (zs : List Int) (k : Int) (sign : Bool) (K S : Addr) (w : World) (hq : q = zs.length) (hz : Row w C (ivs zs)) (hm : q ≤ 140737488355328) (hK : w.cell? K = some (.int .i64 k)) (hS : w.cell? S = some (.bool sign)) (hk : wide k = true) :
    Calls Tryz.prog 105 #[.slice C q qc, .func (.func 106) #[] #[.pointer (some K), .pointer (some S)]] w fun e w' => e = .returned (.bool (zs.any (fun n => !fits k n sign))) ∧ w' = w := by
  refine enter ok Tryz.func105 rfl rfl rfl ?_
  refine call_ (index_ok C q qc zs k sign K S w hq hz hm hK hS hk) ?_
  rintro e w' ⟨z, rfl, hz2, rfl⟩
  exact ⟨_, rfl, ret_bool hz2, rfl⟩
end Go.Proofs.YtdcaafldnbcdkaaGreatDoor.Word

/-! ### WAll -/
namespace Go.Proofs.YtdcaafldnbcdkaaGreatDoor.Word
open Go Go.Proofs.YtdcaafldnbcdkaaGreatDoor Go.Proofs.YtdcaafldnbcdkaaGreatDoor.Eng Go.Proofs
set_option maxRecDepth 10000

/-- Do all go? -/
def good (k : Int) (sign : Bool) (zs : List Int) : Bool := wide k && !zs.any (fun n => !fits k n sign)
def allErr (k : Int) (sign : Bool) (zs : List Int) : Int := if good k sign zs = true then 0 else 2
def allBs (bs : List UInt8) (k : Int) (sign : Bool) (zs : List Int) : List UInt8 := if good k sign zs = true then bs ++ zs.flatMap (enc k.toNat) else bs
theorem flat_take (zs : List Int) (k i : Nat) (h : i < zs.length) : (zs.take (i + 1)).flatMap (enc k) = (zs.take i).flatMap (enc k) ++ enc k zs[i] := by
  rw [List.take_succ_eq_append_getElem h, List.flatMap_append]
  simp
theorem flat_length (k : Nat) : ∀ zs : List Int, (zs.flatMap (enc k)).length = k * zs.length
  | [] => by simp
  | z :: zs => by
    rw [List.flatMap_cons, List.length_append, enc_length, flat_length k zs, List.length_cons, Nat.mul_succ]
    omega
/-- What a writer's act may turn. -/
abbrev WS (g : Nat) (v : Value) : Nat → Prop := fun b => b = g ∨ some b = v.ownBlock
theorem stayed.trans {w w1 : World} {v v1 v2 : Value} (h : stayed w v v1) (hs : w.heap.size ≤ w1.heap.size) (k : stayed w1 v1 v2) : stayed w v v2 := by
  intro b hb
  rcases k b hb with h1 | h1
  · exact h b h1
  · exact .inr (Nat.le_trans hs h1)
theorem stayed.refl (w : World) (v : Value) : stayed w v v := fun _ h => .inl h

theorem all_ok (base g : Nat) (v : Value) (bs : List UInt8) (k : Int) (sign : Bool) (C : Option Addr) (q qc : Nat) (zs : List Int) (w : World) (h : Wr w base g v bs) (hz : Row w C (ivs zs)) (hq : q = zs.length) (hC : ∀ a, C = some a → zs ≠ [] → ¬ WS g v a.block)
    (hm : bs.length + 8 * zs.length ≤ 140737488355328) (hbase : base ≤ w.heap.size) :
    Calls Tryz.prog 83 #[.pointer (some ⟨g, 0, none⟩), .int .i64 k, .bool sign, .slice C q qc] w fun e w' => e = .returned (.int .i64 (allErr k sign zs)) ∧ ∃ v', Wr w' base g v' (allBs bs k sign zs) ∧ Mod (WS g v) w w' ∧ stayed w v v' := by
  refine enter ok Tryz.func83 rfl rfl rfl ?_
  have n1 : New w (w.alloc (.cells #[.int .i64 k] 3)) := New.alloc _ _
  have n2 : New w ((w.alloc (.cells #[.int .i64 k] 3)).alloc (.cells #[.bool sign] 4)) := n1.trans (New.alloc _ _)
  have hK1 : (w.alloc (.cells #[.int .i64 k] 3)).cell? ⟨w.heap.size, 0, none⟩ = some (.int .i64 k) := by
    rw [cell_of_row _ _ 0 _ _ _ (heap_alloc_new w _)]; rfl
  have hK : ((w.alloc (.cells #[.int .i64 k] 3)).alloc (.cells #[.bool sign] 4)).cell? ⟨w.heap.size, 0, none⟩ = some (.int .i64 k) := (New.alloc _ _).cell hK1
  have hS : ((w.alloc (.cells #[.int .i64 k] 3)).alloc (.cells #[.bool sign] 4)).cell? ⟨(w.alloc (.cells #[.int .i64 k] 3)).heap.size, 0, none⟩ = some (.bool sign) := by
    rw [cell_of_row _ _ 0 _ _ _ (heap_alloc_new _ _)]; rfl
  refine call_ (wis_ok _ true _ (h.new n2).is) ?_
  rintro e w2 ⟨rfl, hw2⟩
  change w2 = (w.alloc (.cells #[.int .i64 k] 3)).alloc (.cells #[.bool sign] 4) at hw2
  rw [← hw2] at hK hS n2
  clear hw2
  refine ⟨_, rfl, ?_⟩
  refine Exists.intro k (And.intro hK ?_)
  refine call_ (wide_ok k w2) ?_
  rintro e w' ⟨rfl, rfl⟩
  refine ⟨_, rfl, ?_⟩
  refine if_ (fun hwk => ?_) (fun hwk => ?_)
  · have hg : good k sign zs = false := by
      unfold good
      simp only [Bool.not_eq_true'] at hwk
      rw [hwk]
      rfl
    unfold allErr allBs
    rw [hg]
    exact ⟨rfl, v, h.new n2, n2.mod, stayed.refl _ _⟩
  replace hwk : wide k = true := by simpa using hwk
  refine call_ (contains_ok C q qc zs k sign _ _ w' hq (hz.new n2) (by omega) hK hS hwk) ?_
  rintro e w2 ⟨rfl, rfl⟩
  refine ⟨_, rfl, ?_⟩
  refine if_ (fun hu => ?_) (fun hu => ?_)
  · have hg : good k sign zs = false := by
      unfold good
      rw [hwk, hu]
      rfl
    unfold allErr allBs
    rw [hg]
    exact ⟨rfl, v, h.new n2, n2.mod, stayed.refl _ _⟩
  have hg : good k sign zs = true := by
    unfold good
    rw [hwk, hu]
    rfl
  unfold allErr allBs
  rw [hg, if_pos rfl, if_pos rfl]
  have hkc := wide_cases hwk
  obtain ⟨n, rfl⟩ : ∃ n : Nat, k = n := ⟨k.toNat, by omega⟩
  have hn0 : 0 < n := by omega
  have hn8 : n ≤ 8 := by omega
  rw [Int.toNat_natCast]
  have hgl : g < w.heap.size := h.lt
  have hKb : ¬ WS g v w.heap.size := by
    rintro (e | e)
    · omega
    · have := h.own.lt w.heap.size e.symm
      omega
  refine den_loop (σ := Nat) (fun i => [(0, .pointer (some ⟨g, 0, none⟩)), (5, .pointer (some ⟨w.heap.size, 0, none⟩)), (22, .slice C q qc), (23, .int .i64 q), (24, .int .i64 i)])
    (fun m i wl => i ≤ q ∧ m = q - i ∧ ∃ vi, Wr wl base g vi (bs ++ (zs.take i).flatMap (enc n)) ∧ Mod (WS g v) w2 wl ∧ stayed w2 v vi) q 0 ⟨rfl, rfl, rfl, rfl, rfl, trivial⟩ ⟨Nat.zero_le _, rfl, v, by simpa using h.new n2, Mod.refl _ _, stayed.refl _ _⟩ ?_
  rintro m i wl fr0 ⟨hi, rfl, vi, hw, hl, hst⟩
  refine if_p (fun hlt => ?_) (fun hge => ?_)
  · have hi' : i < zs.length := by omega
    have hzl : Row wl C (ivs zs) := (hz.new n2).mod hl (fun a ha => hC a ha (by intro e; rw [e] at hi'; exact absurd hi' (Nat.not_lt_zero _)))
    have hKl : wl.cell? ⟨w.heap.size, 0, none⟩ = some (.int .i64 (n : Int)) := hl.cell hK hKb
    have hKo : some w.heap.size ≠ vi.ownBlock := by
      intro e
      rcases hst _ e.symm with h1 | h1
      · exact hKb (.inr h1.symm)
      · have := n1.size
        have := n2.size
        have h3 := (Array.getElem?_eq_some_iff.1 (heap_alloc_new w (.cells #[.int .i64 (n : Int)] 3))).1
        have h4 : w.heap.size < w2.heap.size := World.block_lt_of_cell? w2 _ hK
        omega
    obtain ⟨a, rfl, hc⟩ := hzl.at_ i (by simp [ivs]; omega)
    have hzv : (ivs zs)[i]'(by simp [ivs]; omega) = .int .i64 zs[i] := by simp [ivs]
    rw [hzv] at hc
    have hlen : (bs ++ (zs.take i).flatMap (enc n)).length = bs.length + n * i := by rw [List.length_append, flat_length, List.length_take, Nat.min_eq_left (by omega)]
    have hni : n * i + n ≤ 8 * zs.length := by
      have : n * (i + 1) ≤ 8 * zs.length := Nat.mul_le_mul hn8 hi'
      rw [Nat.mul_succ] at this
      exact this
    generalize hbi : bs ++ (zs.take i).flatMap (enc n) = bi at hw hlen
    refine And.intro (by omega) (And.intro hlt (some_at rfl (Exists.intro _ (And.intro (by rw [Nat.mul_one, Int.toNat_natCast]; exact hc) ?_))))
    obtain ⟨A0, c0, rfl, _⟩ := own_slice hw.own
    refine draw_ ok (.q 0 (.q 1 (.q 2 (.q 3 (.q 4 (.q 5 (.q 6 (.e 7 (.q 8 (.q 9 (.q 10 (.e 11 .done)))))))))))) [11] (fun w' => Mod (fun b => some b = (Value.slice A0 bi.length c0).ownBlock) wl w') (by kernel_rfl) (by kernel_rfl) (by kernel_rfl) (by kernel_rfl) (by kernel_rfl) (New.drew wl).mod ?_
    refine Exists.intro A0 (Exists.intro bi.length (Exists.intro c0 (And.intro (fun w' hw' => by rw [ad]; exact hw'.cell hw.c0 (fun e => hw.off e.symm)) ?_)))
    refine Exists.intro (n : Int) (And.intro (fun w' hw' => hw'.cell hKl hKo) ?_)
    have hbl : base ≤ wl.heap.size := Nat.le_trans hbase (Nat.le_trans n2.size hl.size)
    refine eff_app rfl rfl (fun _ _ => rfl) ?_
    refine append_zeros_ ok rfl rfl rfl rfl rfl rfl rfl rfl rfl (own_new (New.drew wl) hw.own) rfl rfl rfl hn0 (by show (bi.length + n) * 1 ≤ _; omega) (by omega) hbl ?_
    intro A1 c1 w3 own3 mod3 st3
    have m3 : Mod (fun b => some b = (Value.slice A0 bi.length c0).ownBlock) wl w3 := Mod.trans (New.drew wl).mod mod3 fun _ _ h => h
    refine Exists.intro _ (And.intro (fun _ h => h) (And.intro m3 ?_))
    have hblk3 := m3.blk hw.blk (fun e => hw.off e.symm)
    have hz0 : List.replicate n (Value.int .u8 0) = bvs (List.replicate n 0) := by
      unfold bvs
      rw [List.map_replicate]
      rfl
    rw [hz0, ← bvs_append] at own3
    have hl3 : bi.length + n = (bi ++ List.replicate n (0 : UInt8)).length := by simp
    have hoff3 : (Value.slice A1 (bi.length + n) c1).ownBlock ≠ some g := by
      intro e
      rcases st3 g e with h1 | h1
      · exact hw.off h1
      · have := hw.lt
        simp at h1
        omega
    have hc3 : w3.cell? ⟨g, 0, none⟩ = some (.slice A0 bi.length c0) := by rw [cell_of_row _ _ 0 _ _ _ hblk3]; rfl
    refine And.intro ⟨_, by rw [ad]; exact hc3⟩ (And.intro (by rw [ad]; exact frozen_of_row w3 g 0 _ _ hblk3) ?_)
    rw [ad]
    obtain ⟨wr4, mod4⟩ := Wr.set (bs := bi ++ List.replicate n 0) hblk3 (by rw [← hl3]; exact own3) hoff3
    have hK4 : ((w3.setCell ⟨g, 0, none⟩ (.slice A1 (bi.length + n) c1)).drew).cell? ⟨w.heap.size, 0, none⟩ = some (.int .i64 (n : Int)) :=
      (New.drew _).cell (mod4.cell (m3.cell hKl hKo) (by intro e; exact hKb (.inl e)))
    refine draw_ ok (.q 0 (.q 1 (.q 2 (.q 3 (.q 4 (.q 5 (.q 6 (.q 7 (.q 8 (.q 9 (.q 10 (.e 11 .done)))))))))))) [11] (New (w3.setCell ⟨g, 0, none⟩ (.slice A1 (bi.length + n) c1)).drew) (by kernel_rfl) (by kernel_rfl) (by kernel_rfl) (by kernel_rfl) (by kernel_rfl) (New.refl _) ?_
    have wr5 := wr4.new (New.drew _)
    refine Exists.intro A1 (Exists.intro (bi.length + n) (Exists.intro c1 (And.intro (fun w' hw' => by rw [ad]; exact hw'.cell wr5.c0) ?_)))
    refine Exists.intro (n : Int) (And.intro (fun w' hw' => hw'.cell hK4) ?_)
    refine Exists.intro (n : Int) (And.intro (fun w' hw' => hw'.cell hK4) ?_)
    refine call_ (put_ok base g _ _ bi.length n zs[i] _ (by rw [wrap_i64 (by omega) (by omega)]; omega) _ wr5 hn8 (by simp) (by simp; omega)) ?_
    rintro e w6 ⟨rfl, wr6, mod6⟩
    rw [patch_end _ _ _ _ (by simp)] at wr6
    refine ⟨_, rfl, ?_⟩
    have hstt : stayed w2 v (.slice A1 (bi.length + n) c1) := stayed.trans hst hl.size (fun b hb => by
      rcases st3 b hb with h1 | h1
      · exact .inl h1
      · exact .inr (by simpa using h1))
    refine ⟨q - (i + 1), i + 1, by omega, ⟨rfl, rfl, rfl, rfl, ?_, trivial⟩, by omega, rfl, _, ?_, ?_, hstt⟩
    · show Value.int .i64 (IntKind.i64.wrap _) = _
      rw [wrap_i64 (by omega) (by omega)]
      rfl
    · rw [flat_take zs n i hi', ← List.append_assoc, hbi]
      exact wr6
    · have sub : ∀ {x : Value}, stayed w2 v x → ∀ b, b < w2.heap.size → some b = x.ownBlock → WS g v b := fun {x} hx b hb e => by
        rcases hx b e.symm with h1 | h1
        · exact .inr h1.symm
        · omega
      have a1 := Mod.trans hl m3 (fun b hb e => sub hst b hb e)
      have a2 := Mod.trans a1 mod4 (fun b hb e => .inl e)
      have a3 := Mod.trans (a2.new (New.drew _)) mod6 (fun b hb e => sub hstt b hb e)
      exact a3
  · have : i = q := by omega
    subst this
    rw [hq, List.take_length] at hw
    exact ⟨rfl, vi, hw, Mod.trans n2.mod hl (fun _ _ h => h), fun b hb => by
      rcases hst b hb with h1 | h1
      · exact .inl h1
      · exact .inr (Nat.le_trans n2.size h1)⟩
end Go.Proofs.YtdcaafldnbcdkaaGreatDoor.Word

/-! ### WMore -/
namespace Go.Proofs.YtdcaafldnbcdkaaGreatDoor.Word
open Go Go.Proofs.YtdcaafldnbcdkaaGreatDoor Go.Proofs.YtdcaafldnbcdkaaGreatDoor.Eng Go.Proofs
set_option maxRecDepth 10000

theorem row_none {w : World} {bs : List UInt8} (h : Row w none (bvs bs)) : bs = [] := by
  cases bs with
  | nil => rfl
  | cons b r => obtain ⟨a, ha, _⟩ := h 0 (bv b) rfl; cases ha
theorem Clone_ok (A : Option Addr) (n c : Nat) (bs : List UInt8) (w : World) (hn : n = bs.length) (hr : Row w A (bvs bs)) (hm : n ≤ 140737488355328) :
    Calls Tryz.prog 35 #[.slice A n c] w fun e w' => ∃ v, e = .returned v ∧ w'.ownsRow w.heap.size 5 1 v n (bvs bs) ∧ New w w' := by
  refine enter ok Tryz.func35 rfl rfl rfl ?_
  refine if_ (fun h => ?_) (fun h => ?_)
  · cases A with
    | some a => cases h
    | none =>
      have := row_none hr
      subst this
      subst hn
      exact ⟨_, rfl, ⟨rfl, .inl ⟨rfl, rfl⟩⟩, New.refl _⟩
  · refine append_ ok rfl rfl rfl rfl (own_lit w [] 5 1 0 w.heap.size (Nat.le_refl _) rfl (by omega)) rfl rfl (hr.new (New.alloc _ _)) (by rw [bvs_length, hn]; exact (Nat.mul_one _).symm) (bvs_one bs) (by decide) rfl (by show (0 + n) * 1 ≤ _; omega) (by omega) (by simp) ?_
    intro A' c' w' hown hmod
    refine ⟨_, rfl, ?_, ?_⟩
    · rw [Nat.zero_add] at hown ⊢
      exact hown
    · refine Mod.trans (New.alloc w _) hmod ?_
      intro i hi h
      simp only [Value.ownBlock, Option.some.injEq] at h
      omega

theorem Len_ok (base g : Nat) (v : Value) (bs : List UInt8) (w : World) (h : Wr w base g v bs) : Calls Tryz.prog 61 #[.pointer (some ⟨g, 0, none⟩)] w fun e w' => e = .returned (.int .i64 bs.length) ∧ w' = w := by
  refine enter ok Tryz.func61 rfl rfl rfl ?_
  refine call_ (wis_ok _ true w h.is) ?_
  rintro e w' ⟨rfl, rfl⟩
  refine ⟨_, rfl, ?_⟩
  obtain ⟨A, c, rfl, _⟩ := own_slice h.own
  exact Exists.intro A (Exists.intro bs.length (Exists.intro c (And.intro (by rw [ad]; exact h.c0) ⟨rfl, rfl⟩)))
theorem All_ok (base g : Nat) (v : Value) (bs : List UInt8) (w : World) (h : Wr w base g v bs) (hm : bs.length ≤ 140737488355328) : Calls Tryz.prog 62 #[.pointer (some ⟨g, 0, none⟩)] w fun e w' => ∃ u, e = .returned u ∧ w'.ownsRow w.heap.size 5 1 u bs.length (bvs bs) ∧ New w w' := by
  refine enter ok Tryz.func62 rfl rfl rfl ?_
  refine call_ (wis_ok _ true w h.is) ?_
  rintro e w' ⟨rfl, rfl⟩
  refine ⟨_, rfl, ?_⟩
  obtain ⟨A, c, rfl, _, _, hrow, _⟩ := own_slice h.own
  refine Exists.intro A (Exists.intro bs.length (Exists.intro c (And.intro (by rw [ad]; exact h.c0) ?_)))
  refine call_ (Clone_ok A _ c bs w' rfl hrow hm) ?_
  rintro e w2 ⟨u, rfl, hown, hnew⟩
  obtain ⟨A2, c2, rfl, _⟩ := own_slice hown
  exact ⟨_, rfl, _, rfl, hown, hnew⟩
theorem WU_ok (base g : Nat) (v : Value) (bs : List UInt8) (k : Int) (C : Option Addr) (q qc : Nat) (zs : List Int) (w : World) (h : Wr w base g v bs) (hz : Row w C (ivs zs)) (hq : q = zs.length) (hC : ∀ a, C = some a → zs ≠ [] → ¬ WS g v a.block)
    (hm : bs.length + 8 * zs.length ≤ 140737488355328) (hbase : base ≤ w.heap.size) :
    Calls Tryz.prog 48 #[.pointer (some ⟨g, 0, none⟩), .int .i64 k, .slice C q qc] w fun e w' => e = .returned (.int .i64 (allErr k false zs)) ∧ ∃ v', Wr w' base g v' (allBs bs k false zs) ∧ Mod (WS g v) w w' ∧ stayed w v v' := by
  refine enter ok Tryz.func48 rfl rfl rfl ?_
  refine call_ (all_ok base g v bs k false C q qc zs w h hz hq hC hm hbase) ?_
  rintro e w' ⟨rfl, h2⟩
  exact ⟨_, rfl, rfl, h2⟩
theorem WS_ok (base g : Nat) (v : Value) (bs : List UInt8) (k : Int) (C : Option Addr) (q qc : Nat) (zs : List Int) (w : World) (h : Wr w base g v bs) (hz : Row w C (ivs zs)) (hq : q = zs.length) (hC : ∀ a, C = some a → zs ≠ [] → ¬ WS g v a.block)
    (hm : bs.length + 8 * zs.length ≤ 140737488355328) (hbase : base ≤ w.heap.size) :
    Calls Tryz.prog 85 #[.pointer (some ⟨g, 0, none⟩), .int .i64 k, .slice C q qc] w fun e w' => e = .returned (.int .i64 (allErr k true zs)) ∧ ∃ v', Wr w' base g v' (allBs bs k true zs) ∧ Mod (WS g v) w w' ∧ stayed w v v' := by
  refine enter ok Tryz.func85 rfl rfl rfl ?_
  refine call_ (all_ok base g v bs k true C q qc zs w h hz hq hC hm hbase) ?_
  rintro e w' ⟨rfl, h2⟩
  exact ⟨_, rfl, rfl, h2⟩

theorem S_ok (g : Nat) (A : Option Addr) (c : Nat) (bs : List UInt8) (i : Nat) (k : Int) (w : World) (h : Rd w g A c bs i) :
    Calls Tryz.prog 79 #[.pointer (some ⟨g, 0, none⟩), .int .i64 k] w fun e w' => e = .returned (.tuple #[.int .i64 (get true bs i k).1, .int .i64 (get true bs i k).2.1]) ∧ Rd w' g A c bs (get true bs i k).2.2 ∧ Mod (fun b => b = g) w w' := by
  refine enter ok Tryz.func79 rfl rfl rfl ?_
  refine call_ (wide_ok k w) ?_
  rintro e w' ⟨rfl, rfl⟩
  refine ⟨_, rfl, ?_⟩
  refine call_ (look_ok g A c bs i k (wide k) w' h) ?_
  rintro e w1 ⟨rfl, h1⟩
  refine ⟨_, rfl, ?_⟩
  have hw1 := h.new h1
  have ha := h.at_
  have hb := h.cap
  have hc := h.top
  have e1 : ∀ q : Int, (if wide k = true then if (bs.length : Int) - i < k then 7 else 0 else 2 : Int) = q → q ≠ 0 → get true bs i k = (0, q, i) := by
    intro q hq hne
    unfold get
    by_cases hwk : wide k = true
    · rw [if_pos hwk] at hq ⊢
      by_cases hl : (bs.length : Int) - i < k
      · rw [if_pos hl] at hq ⊢
        rw [hq]
      · rw [if_neg hl] at hq
        exact absurd hq.symm hne
    · rw [if_neg hwk] at hq ⊢
      rw [hq]
  have e2 : (if wide k = true then if (bs.length : Int) - i < k then 7 else 0 else 2 : Int) = 0 → wide k = true ∧ ¬ (bs.length : Int) - i < k := by
    intro hq
    by_cases hwk : wide k = true
    · rw [if_pos hwk] at hq
      by_cases hl : (bs.length : Int) - i < k
      · rw [if_pos hl] at hq
        cases hq
      · exact ⟨hwk, hl⟩
    · rw [if_neg hwk] at hq
      cases hq
  generalize (if wide k = true then if (bs.length : Int) - i < k then 7 else 0 else 2 : Int) = q at e1 e2
  refine if_n (fun hne => ?_) (fun he => ?_)
  · rw [e1 q rfl hne]
    exact ⟨rfl, hw1, h1.mod⟩
  obtain ⟨hwk, hl⟩ := e2 he
  have hk := wide_cases hwk
  obtain ⟨n, rfl⟩ : ∃ n : Nat, k = n := ⟨k.toNat, by omega⟩
  have hn8 : n ≤ 8 := by omega
  have hin : i + n ≤ bs.length := by omega
  have hg : get true bs i (n : Int) = (sval n (be ((bs.drop i).take n)), (0 : Int), i + n) := by
    unfold get
    rw [if_pos hwk, if_neg hl, if_pos rfl]
    rfl
  have ein : IntKind.i64.wrap ((i : Int) + (n : Int)) = ((i + n : Nat) : Int) := by
    rw [wrap_i64 (by omega) (by omega)]
    omega
  have elen : (IntKind.i64.wrap ((i : Int) + (n : Int))).toNat - (i : Int).toNat = n := by rw [ein]; omega
  refine draw_ ok (.q 0 (.q 1 (.q 2 (.q 3 (.q 4 (.q 5 (.q 6 (.q 7 (.q 8 (.q 9 (.q 10 (.q 11 (.q 12 (.q 13 (.q 14 (.q 15 (.q 16 (.q 17 (.q 18 (.q 19 .done)))))))))))))))))))) [] (New w1) (by kernel_rfl) (by kernel_rfl) (by kernel_rfl) (by kernel_rfl) (by kernel_rfl) (New.drew w1) ?_
  refine Exists.intro A (Exists.intro bs.length (Exists.intro c (And.intro (fun w'' hw => by rw [ad]; exact hw.cell hw1.c0) ?_)))
  refine Exists.intro (i : Int) (And.intro (fun w'' hw => by rw [ad]; exact hw.cell hw1.c1) ?_)
  refine Exists.intro (i : Int) (And.intro (fun w'' hw => by rw [ad]; exact hw.cell hw1.c1) ?_)
  refine And.intro (by omega) (And.intro (by rw [ein]; omega) (And.intro (by rw [ein]; omega) ?_))
  have hw2 := hw1.new (New.drew w1)
  refine den_loop (σ := Nat) (fun j => [(0, .pointer (some ⟨g, 0, none⟩)), (1, .int .i64 n), (7, .int .i64 (IntKind.i64.wrap ((be ((bs.drop i).take j) : Nat) : Int))), (36, .slice (slA A c i 1) n (c - i)), (37, .int .i64 n), (38, .int .i64 j)]) (fun m j w' => j ≤ n ∧ m = n - j ∧ w' = w1.drew) n 0 ?_ ⟨Nat.zero_le _, rfl, rfl⟩ ?_
  · refine ⟨rfl, rfl, rfl, ?_, ?_, rfl, trivial⟩
    · show Value.slice _ _ _ = Value.slice _ _ _
      rw [elen]
      rfl
    · show Value.int .i64 _ = Value.int .i64 _
      rw [elen]
  rintro m j w' fr0 ⟨hj, rfl, rfl⟩
  refine if_p (fun hlt => ?_) (fun hge => ?_)
  · obtain ⟨a, hsl, hcell⟩ := cut_cell hw2.row hb i j (by omega)
    refine And.intro (by omega) (And.intro hlt (some_at hsl (Exists.intro _ (And.intro (by rw [Int.toNat_natCast]; exact hcell) ?_))))
    refine And.intro (by decide) ⟨n - (j + 1), j + 1, by omega, ⟨rfl, rfl, ?_, rfl, rfl, ?_, trivial⟩, by omega, rfl, rfl⟩
    · show Value.int .i64 (bits _ _ _ _) = Value.int .i64 _
      have hbt := (bs.getD (i + j) 0).toBitVec.isLt
      have hbe := be_lt8 ((bs.drop i).take (j + 1)) (by rw [List.length_take]; omega)
      rw [be_take_succ bs i j (by omega)] at hbe
      rw [be_take_succ bs i j (by omega), ← or_shl_i _ _ _ rfl (by exact hbt) hbe]
      rfl
    · show Value.int .i64 (IntKind.i64.wrap _) = _
      rw [wrap_i64 (by omega) (by omega)]
      rfl
  · have : j = n := by omega
    subst this
    have hbe := be_lt ((bs.drop i).take j)
    rw [List.length_take, List.length_drop, Nat.min_eq_left (by omega)] at hbe
    rw [hg]
    obtain ⟨hput, hmod⟩ := hw2.put (j := i + j) hin (v := .int .i64 (IntKind.i64.wrap ((i : Int) + (j : Int)))) (by rw [ein])
    have e8 : IntKind.i64.wrap (64 - IntKind.i64.wrap (8 * (j : Int))) = 64 - 8 * (j : Int) := by
      rw [wrap_i64 (n := 8 * (j : Int)) (by omega) (by omega), wrap_i64 (by omega) (by omega)]
    refine Exists.intro (i : Int) (And.intro (by rw [ad]; exact hw2.c1) (And.intro ⟨_, by rw [ad]; exact hw2.c1⟩ (And.intro (by rw [ad]; exact hw2.fz 1) ?_)))
    refine And.intro (by rw [e8]; omega) (And.intro (by rw [e8]; omega) ⟨?_, ?_, ?_⟩)
    · show Ending.returned (.tuple #[.int .i64 _, .int .i64 0]) = _
      rw [sign_ext (j : Int) _ hwk (by simpa using hbe)]
      rfl
    · rw [ad]
      exact hput
    · rw [ad]
      exact Mod.trans (h1.trans (New.drew _)).mod hmod fun _ _ h => h
end Go.Proofs.YtdcaafldnbcdkaaGreatDoor.Word

/-! ### WWorks -/
namespace Go.Proofs.YtdcaafldnbcdkaaGreatDoor.Word
open Go Go.Proofs.YtdcaafldnbcdkaaGreatDoor Go.Proofs.YtdcaafldnbcdkaaGreatDoor.Eng Go.Proofs
set_option maxRecDepth 10000

theorem one_i64 (w : World) (z : Int) : Row (w.alloc (.cells #[.int .i64 z] 3)) (some ⟨w.heap.size, 0, none⟩) (ivs [z]) := row_alloc w [.int .i64 z] _ _

end Go.Proofs.YtdcaafldnbcdkaaGreatDoor.Word

/-! ### WRef -/
namespace Go.Proofs.YtdcaafldnbcdkaaGreatDoor.Word
open Go Go.Proofs.YtdcaafldnbcdkaaGreatDoor Go.Proofs.YtdcaafldnbcdkaaGreatDoor.Eng Go.Proofs
set_option maxRecDepth 10000

theorem refwide_ok (k : Int) (w : World) : Calls Tryz.prog 93 #[.int .i64 k] w fun e w' => e = .returned (.bool (wide k)) ∧ w' = w := by
  refine enter ok Tryz.func93 rfl rfl rfl ?_
  refine if_p (fun h => ⟨ret_bool (by simp [wide, h]), rfl⟩) (fun h1 => ?_)
  refine if_p (fun h => ⟨ret_bool (by simp [wide, h]), rfl⟩) (fun h2 => ?_)
  refine if_p (fun h => ⟨ret_bool (by simp [wide, h]), rfl⟩) (fun h3 => ?_)
  refine ⟨?_, rfl⟩
  show Ending.returned (.bool (decide (k = 8))) = _
  simp [wide, h1, h2, h3]
theorem full_ok (k : Nat) (w : World) (hk : k ≤ 7) : Calls Tryz.prog 115 #[.int .i64 k] w fun e w' => e = .returned (.int .i64 ((256 ^ k : Nat) : Int)) ∧ w' = w := by
  refine enter ok Tryz.func115 rfl rfl rfl ?_
  refine den_loop (σ := Nat) (fun i => [(0, .int .i64 k), (3, .int .i64 ((256 ^ i : Nat) : Int)), (4, .int .i64 i)]) (fun m i w' => i ≤ k ∧ m = k - i ∧ w' = w) k 0 ⟨rfl, rfl, rfl, trivial⟩ ⟨Nat.zero_le _, rfl, rfl⟩ ?_
  rintro m i w' fr0 ⟨hi, rfl, rfl⟩
  refine if_p (fun hlt => ?_) (fun hge => ?_)
  · refine ⟨k - (i + 1), i + 1, by omega, ⟨rfl, ?_, ?_, trivial⟩, by omega, rfl, rfl⟩
    · show Value.int .i64 (IntKind.i64.wrap (_ * 256)) = Value.int .i64 _
      have h7 : 256 ^ (i + 1) ≤ 256 ^ 7 := Nat.pow_le_pow_right (by decide) (by omega)
      rw [Nat.pow_succ] at h7 ⊢
      generalize 256 ^ i = q at h7
      have h8 : q * 256 ≤ 72057594037927936 := h7
      rw [wrap_i64 (by omega) (by omega)]
      congr 1
    · show Value.int .i64 (IntKind.i64.wrap _) = _
      rw [wrap_i64 (by omega) (by omega)]
      rfl
  · have : i = k := by omega
    subst this
    exact ⟨rfl, rfl⟩

/-- What bytes are as a number, by the document. -/
def num (sign : Bool) (bs : List UInt8) : Int × Int := if sign = true then (sval bs.length (be bs), 0) else if be bs < 9223372036854775808 then (((be bs : Nat) : Int), 0) else (0, 3)
theorem ret2 {a b c d : Int} (h1 : a = c) (h2 : b = d) : Ending.returned (.tuple #[.int .i64 a, .int .i64 b]) = .returned (.tuple #[.int .i64 c, .int .i64 d]) := by rw [h1, h2]
theorem be_step (bs : List UInt8) (i : Nat) (hi : i < bs.length) : be (bs.take (i + 1)) = be (bs.take i) * 256 + bs[i].toNat := by
  rw [List.take_succ_eq_append_getElem hi, be_snoc]
theorem Number_ok (A : Option Addr) (n c : Nat) (bs : List UInt8) (sign : Bool) (w : World) (hn : n = bs.length) (hr : Row w A (bvs bs)) (hw : wide (bs.length : Int) = true) :
    Calls Tryz.prog 94 #[.slice A n c, .bool sign] w fun e w' => e = .returned (.tuple #[.int .i64 (num sign bs).1, .int .i64 (num sign bs).2]) ∧ w' = w := by
  subst hn
  have hk := wide_cases hw
  have hbe := be_lt8 bs (by omega)
  refine enter ok Tryz.func94 rfl rfl rfl ?_
  refine den_loop (σ := Nat) (fun i => [(0, .slice A bs.length c), (1, .bool sign), (6, .int .u64 ((be (bs.take i) : Nat) : Int)), (7, .int .i64 i)]) (fun m i w' => i ≤ bs.length ∧ m = bs.length - i ∧ w' = w) bs.length 0 ⟨rfl, rfl, rfl, rfl, trivial⟩ ⟨Nat.zero_le _, rfl, rfl⟩ ?_
  rintro m i w' fr0 ⟨hi, rfl, rfl⟩
  refine if_p (fun hlt => ?_) (fun hge => ?_)
  · have hi' : i < bs.length := by omega
    obtain ⟨a, rfl, hc⟩ := hr.at_ i (by rw [bvs_length]; exact hi')
    have hv : (bvs bs)[i]'(by rw [bvs_length]; exact hi') = .int .u8 (bs[i].toNat : Int) := by simp [bvs, bv]
    rw [hv] at hc
    refine And.intro (by omega) (And.intro hlt (some_at rfl (Exists.intro _ (And.intro (by rw [Nat.mul_one, Int.toNat_natCast]; exact hc) ?_))))
    refine ⟨bs.length - (i + 1), i + 1, by omega, ⟨rfl, rfl, ?_, ?_, trivial⟩, by omega, rfl, rfl⟩
    · show Value.int .u64 (IntKind.u64.wrap _) = Value.int .u64 _
      have hb := be_lt8 (bs.take (i + 1)) (by rw [List.length_take]; omega)
      have hx := bs[i].toBitVec.isLt
      have hx' : bs[i].toNat < 256 := hx
      rw [be_step bs i hi'] at hb ⊢
      congr 1
      simp only [wrap_u64]
      omega
    · show Value.int .i64 (IntKind.i64.wrap _) = _
      rw [wrap_i64 (by omega) (by omega)]
      rfl
  · have : i = bs.length := by omega
    subst this
    rw [List.take_length]
    have hbe' := be_lt bs
    refine if_p (fun h8 => ?_) (fun h8 => ?_)
    · have h8' : bs.length = 8 := by omega
      cases sign with
      | true =>
        refine ⟨ret2 ?_ rfl, rfl⟩
        show IntKind.i64.wrap _ = sval bs.length (be bs)
        rw [h8', IntKind.wrap_i64]
        show _ = if be bs < 9223372036854775808 then ((be bs : Nat) : Int) else ((be bs : Nat) : Int) - 18446744073709551616
        split <;> omega
      | false =>
        have hnum : num false bs = if be bs < 9223372036854775808 then (((be bs : Nat) : Int), 0) else (0, 3) := rfl
        rw [hnum]
        refine if_p (fun hneg => ?_) (fun hpos => ?_)
        · rw [IntKind.wrap_i64] at hneg
          rw [if_neg (by omega)]
          exact ⟨rfl, rfl⟩
        · rw [IntKind.wrap_i64] at hpos
          rw [if_pos (by omega)]
          refine ⟨ret2 ?_ rfl, rfl⟩
          show IntKind.i64.wrap _ = ((be bs : Nat) : Int)
          rw [wrap_i64 (by omega) (by omega)]
    · have hl : bs.length = 1 ∨ bs.length = 2 ∨ bs.length = 4 := by omega
      have h4 : 256 ^ bs.length ≤ 256 ^ 4 := Nat.pow_le_pow_right (by decide) (by omega)
      have h4' : 256 ^ bs.length ≤ 4294967296 := h4
      have ew : IntKind.i64.wrap ((be bs : Nat) : Int) = ((be bs : Nat) : Int) := wrap_i64 (by omega) (by omega)
      cases sign with
      | false =>
        have hnum : num false bs = if be bs < 9223372036854775808 then (((be bs : Nat) : Int), 0) else (0, 3) := rfl
        rw [hnum, if_pos (by omega)]
        exact ⟨ret2 ew rfl, rfl⟩
      | true =>
        have hnum : num true bs = (sval bs.length (be bs), 0) := rfl
        rw [hnum]
        have hf := fun w => full_ok bs.length w (by omega)
        have hs : sval bs.length (be bs) = if (256 ^ bs.length : Nat) / 2 ≤ be bs then ((be bs : Nat) : Int) - ((256 ^ bs.length : Nat) : Int) else ((be bs : Nat) : Int) := by
          unfold sval
          rcases hl with h | h | h <;> rw [h]
          · show (if be bs < 128 then _ else _) = if 256 / 2 ≤ be bs then _ else _
            split <;> split <;> first | rfl | omega
          · show (if be bs < 32768 then _ else _) = if 65536 / 2 ≤ be bs then _ else _
            split <;> split <;> first | rfl | omega
          · show (if be bs < 2147483648 then _ else _) = if 4294967296 / 2 ≤ be bs then _ else _
            split <;> split <;> first | rfl | omega
        rw [hs]
        have hp : 256 ≤ 256 ^ bs.length := by
          have := Nat.pow_le_pow_right (n := 256) (by decide) (show 1 ≤ bs.length by omega)
          simpa using this
        generalize 256 ^ bs.length = q at hbe' h4' hp hf ⊢
        refine call_ (hf _) ?_
        rintro e w2 ⟨rfl, rfl⟩
        refine ⟨_, rfl, ?_⟩
        have eq2 : IntKind.i64.wrap ((q : Int).tdiv 2) = ((q / 2 : Nat) : Int) := by
          rw [Int.tdiv_eq_ediv_of_nonneg (by omega), wrap_i64 (by omega) (by omega)]
          omega
        refine And.intro (by decide) ?_
        refine if_p (fun hbig => ?_) (fun hsm => ?_)
        · rw [eq2, ew] at hbig
          refine call_ (hf _) ?_
          rintro e w3 ⟨rfl, rfl⟩
          refine ⟨_, rfl, ?_⟩
          rw [if_pos (by omega)]
          refine ⟨ret2 ?_ rfl, rfl⟩
          show IntKind.i64.wrap (IntKind.i64.wrap _ - _) = _
          rw [ew, wrap_i64 (by omega) (by omega)]
        · rw [eq2, ew] at hsm
          rw [if_neg (by omega)]
          exact ⟨ret2 ew rfl, rfl⟩

/-- The document's fits, by powers, is the code's, by shifts. -/
theorem fits_small (k : Nat) (n : Int) (hk : k = 1 ∨ k = 2 ∨ k = 4) : fits k n true = (decide (-(((256 ^ k : Nat) : Int) / 2) ≤ n) && decide (n < ((256 ^ k : Nat) : Int) / 2)) ∧ fits k n false = (decide (0 ≤ n) && decide (n < ((256 ^ k : Nat) : Int))) := by
  rcases hk with rfl | rfl | rfl
  · have e : ((256 ^ 1 : Nat) : Int) = 256 := by decide
    rw [e]
    simp only [fits]
    constructor
    · rw [Bool.eq_iff_iff]
      simp
      omega
    · rw [Bool.eq_iff_iff]
      simp
      omega
  · have e : ((256 ^ 2 : Nat) : Int) = 65536 := by decide
    rw [e]
    simp only [fits]
    constructor
    · rw [Bool.eq_iff_iff]
      simp
      omega
    · rw [Bool.eq_iff_iff]
      simp
      omega
  · have e : ((256 ^ 4 : Nat) : Int) = 4294967296 := by decide
    rw [e]
    simp only [fits]
    constructor
    · rw [Bool.eq_iff_iff]
      simp
      omega
    · rw [Bool.eq_iff_iff]
      simp
      omega
theorem u64_div (n : Int) (j : Nat) (hj : j ≤ 7) : ((n % 18446744073709551616) / 256 ^ j) % 256 = (n / 2 ^ (8 * j)) % 256 := by
  have hj' : j = 0 ∨ j = 1 ∨ j = 2 ∨ j = 3 ∨ j = 4 ∨ j = 5 ∨ j = 6 ∨ j = 7 := by omega
  rcases hj' with rfl | rfl | rfl | rfl | rfl | rfl | rfl | rfl
  · show (n % 18446744073709551616) / 1 % 256 = n / 1 % 256
    omega
  · show (n % 18446744073709551616) / 256 % 256 = n / 256 % 256
    omega
  · show (n % 18446744073709551616) / 65536 % 256 = n / 65536 % 256
    omega
  · show (n % 18446744073709551616) / 16777216 % 256 = n / 16777216 % 256
    omega
  · show (n % 18446744073709551616) / 4294967296 % 256 = n / 4294967296 % 256
    omega
  · show (n % 18446744073709551616) / 1099511627776 % 256 = n / 1099511627776 % 256
    omega
  · show (n % 18446744073709551616) / 281474976710656 % 256 = n / 281474976710656 % 256
    omega
  · show (n % 18446744073709551616) / 72057594037927936 % 256 = n / 72057594037927936 % 256
    omega
/-- What stands behind the last few places were set. -/
def filled (k : Nat) (n : Int) (m : Nat) : List UInt8 := List.replicate m 0 ++ (enc k n).drop m
theorem filled_length (k : Nat) (n : Int) (m : Nat) (h : m ≤ k) : (filled k n m).length = k := by
  simp [filled, enc_length]
  omega
theorem filled_set (k : Nat) (n : Int) (m : Nat) (h : m < k) : (filled k n (m + 1)).set m (encAt k n m) = filled k n m := by
  have e1 : filled k n (m + 1) = List.replicate m 0 ++ (0 :: (enc k n).drop (m + 1)) := by
    unfold filled
    rw [List.replicate_succ', List.append_assoc]
    rfl
  have e2 : (enc k n).drop m = encAt k n m :: (enc k n).drop (m + 1) := by
    rw [List.drop_eq_getElem_cons (by rw [enc_length]; exact h)]
    simp [enc]
  rw [e1, List.set_append_right _ _ (by simp), List.length_replicate, Nat.sub_self, List.set_cons_zero]
  unfold filled
  rw [e2]
theorem filled_zero (k : Nat) (n : Int) : filled k n 0 = enc k n := by simp [filled]
theorem filled_all (k : Nat) (n : Int) : filled k n k = List.replicate k 0 := by
  unfold filled
  rw [List.drop_eq_nil_of_le (by rw [enc_length]; exact Nat.le_refl _), List.append_nil]
end Go.Proofs.YtdcaafldnbcdkaaGreatDoor.Word

/-! ### WRef2 -/
namespace Go.Proofs.YtdcaafldnbcdkaaGreatDoor.Word
open Go Go.Proofs.YtdcaafldnbcdkaaGreatDoor Go.Proofs.YtdcaafldnbcdkaaGreatDoor.Eng Go.Proofs
set_option maxRecDepth 10000

theorem ad1 (g j : Nat) : (⟨g, 0, none⟩ : Addr).add j = ⟨g, j, none⟩ := by rw [Addr.add_lit, Nat.zero_add]
theorem row_mod2 {S : Nat → Prop} {w w' : World} (h : Mod S w w') {A : Option Addr} {bs : List UInt8} (hr : Row w A (bvs bs)) (hn : bs ≠ [] → ∀ a, A = some a → ¬ S a.block) : Row w' A (bvs bs) := by
  by_cases hb : bs = []
  · subst hb
    exact Row.nil _ _
  · exact hr.mod h (hn hb)
/-- The document's reader in memory. -/
structure Rf (w : World) (g : Nat) (A : Option Addr) (c : Nat) (bs : List UInt8) (i : Nat) : Prop where
  blk : w.heap[g]? = some (.cells #[.slice A bs.length c, .int .i64 i] 64 (0, 0))
  row : Row w A (bvs bs)
  off : bs ≠ [] → ∀ a, A = some a → a.block ≠ g
  at_ : i ≤ bs.length
  cap : bs.length ≤ c
  top : c ≤ 9223372036854775807
theorem Rf.c0 {w : World} {g : Nat} {A : Option Addr} {c : Nat} {bs : List UInt8} {i : Nat} (h : Rf w g A c bs i) : w.cell? ⟨g, 0, none⟩ = some (.slice A bs.length c) := by
  rw [cell_of_row _ _ 0 _ _ _ h.blk]; rfl
theorem Rf.c1 {w : World} {g : Nat} {A : Option Addr} {c : Nat} {bs : List UInt8} {i : Nat} (h : Rf w g A c bs i) : w.cell? ⟨g, 1, none⟩ = some (.int .i64 i) := by
  rw [cell_of_row _ _ 1 _ _ _ h.blk]; rfl
theorem Rf.new {w w' : World} {g : Nat} {A : Option Addr} {c : Nat} {bs : List UInt8} {i : Nat} (h : Rf w g A c bs i) (k : New w w') : Rf w' g A c bs i :=
  ⟨k.blk h.blk, h.row.new k, h.off, h.at_, h.cap, h.top⟩
theorem Rf.mod {S : Nat → Prop} {w w' : World} {g : Nat} {A : Option Addr} {c : Nat} {bs : List UInt8} {i : Nat} (h : Rf w g A c bs i) (k : Mod S w w') (hg : ¬ S g) (ha : bs ≠ [] → ∀ a, A = some a → ¬ S a.block) : Rf w' g A c bs i :=
  ⟨k.blk h.blk hg, row_mod2 k h.row ha, h.off, h.at_, h.cap, h.top⟩
theorem Rf.lt {w : World} {g : Nat} {A : Option Addr} {c : Nat} {bs : List UInt8} {i : Nat} (h : Rf w g A c bs i) : g < w.heap.size := (Array.getElem?_eq_some_iff.1 h.blk).1
theorem Rf.put {w : World} {g : Nat} {A : Option Addr} {c : Nat} {bs : List UInt8} {i : Nat} (h : Rf w g A c bs i) {j : Nat} (hj : j ≤ bs.length) {v : Value} (hv : v = .int .i64 j) :
    Rf (w.setCell ⟨g, 1, none⟩ v) g A c bs j ∧ Mod (fun k => k = g) w (w.setCell ⟨g, 1, none⟩ v) := by
  subst hv
  have m := Mod.set w ⟨g, 1, none⟩ (.int .i64 j)
  refine ⟨⟨?_, row_mod2 m h.row (fun hb a ha => h.off hb a ha), h.off, hj, h.cap, h.top⟩, m⟩
  have := heap_setCell_same w g 1 _ _ (.int .i64 (j : Int)) h.blk
  rw [this]
  rfl
theorem Rf.fz {w : World} {g : Nat} {A : Option Addr} {c : Nat} {bs : List UInt8} {i : Nat} (h : Rf w g A c bs i) (j : Nat) : w.frozen? ⟨g, j, none⟩ = false := frozen_of_row w g j _ _ h.blk

theorem bvs_cut (bs : List UInt8) (i n : Nat) : bvs ((bs.drop i).take n) = ((bvs bs).drop i).take n := by
  simp [bvs, List.map_drop, List.map_take]
theorem row_cut {w : World} {A : Option Addr} {bs : List UInt8} {c : Nat} (hr : Row w A (bvs bs)) (hc : bs.length ≤ c) (i n : Nat) : Row w (slA A c i 1) (bvs ((bs.drop i).take n)) := by
  have := (hr.cut c i 1 (by rw [bvs_length]; omega)).take n
  rw [Nat.mul_one] at this
  rw [bvs_cut]
  exact this
theorem get_num (sign : Bool) (bs : List UInt8) (i n : Nat) (hw : wide (n : Int) = true) (hin : i + n ≤ bs.length) :
    ((num sign ((bs.drop i).take n)).2 = 0 → get sign bs i n = ((num sign ((bs.drop i).take n)).1, 0, i + n)) ∧ ((num sign ((bs.drop i).take n)).2 ≠ 0 → get sign bs i n = (0, (num sign ((bs.drop i).take n)).2, i)) := by
  have hl : ((bs.drop i).take n).length = n := by rw [List.length_take, List.length_drop]; omega
  have hg : get sign bs i n = if sign = true then (sval n (be ((bs.drop i).take n)), 0, i + n) else if be ((bs.drop i).take n) < 9223372036854775808 then (((be ((bs.drop i).take n) : Nat) : Int), 0, i + n) else (0, 3, i) := by
    unfold get
    rw [if_pos hw, if_neg (by omega), Int.toNat_natCast]
  rw [hg]
  unfold num
  rw [hl]
  cases sign with
  | true => exact ⟨fun _ => rfl, fun h => absurd rfl h⟩
  | false =>
    by_cases hb : be ((bs.drop i).take n) < 9223372036854775808
    · simp [hb]
    · simp [hb]
theorem get_unwide {sign : Bool} {bs : List UInt8} {i : Nat} {k : Int} (h : wide k = false) : get sign bs i k = (0, 2, i) := by
  unfold get
  rw [h, if_neg (by simp)]
theorem get_short {sign : Bool} {bs : List UInt8} {i : Nat} {k : Int} (h : wide k = true) (hl : (bs.length : Int) - i < k) : get sign bs i k = (0, 7, i) := by
  unfold get
  rw [if_pos h, if_pos hl]
theorem Get_ok (g : Nat) (A : Option Addr) (c : Nat) (bs : List UInt8) (i : Nat) (k : Int) (sign : Bool) (w : World) (h : Rf w g A c bs i) :
    Calls Tryz.prog 63 #[.pointer (some ⟨g, 0, none⟩), .int .i64 k, .bool sign] w fun e w' => e = .returned (.tuple #[.int .i64 (get sign bs i k).1, .int .i64 (get sign bs i k).2.1]) ∧ Rf w' g A c bs (get sign bs i k).2.2 ∧ Mod (fun b => b = g) w w' := by
  refine enter ok Tryz.func63 rfl rfl rfl ?_
  refine call_ (refwide_ok k w) ?_
  rintro e w' ⟨rfl, rfl⟩
  refine ⟨_, rfl, ?_⟩
  have ha := h.at_
  have hb := h.cap
  have hc := h.top
  refine if_ (fun hwk => ?_) (fun hwk => ?_)
  · rw [get_unwide (by simpa using hwk)]
    exact ⟨rfl, h, Mod.refl _ _⟩
  replace hwk : wide k = true := by simpa using hwk
  have hk := wide_cases hwk
  obtain ⟨n, rfl⟩ : ∃ n : Nat, k = n := ⟨k.toNat, by omega⟩
  refine draw_ ok (.q 0 (.q 1 (.q 2 (.q 3 (.q 4 (.q 5 (.q 6 (.q 7 (.q 8 (.q 9 (.q 10 (.q 11 .done)))))))))))) [11] (New w') (by kernel_rfl) (by kernel_rfl) (by kernel_rfl) (by kernel_rfl) (by kernel_rfl) (New.drew w') ?_
  refine Exists.intro A (Exists.intro bs.length (Exists.intro c (And.intro (fun w'' hw => by rw [ad1]; exact hw.cell h.c0) ?_)))
  refine Exists.intro (i : Int) (And.intro (fun w'' hw => by rw [ad1]; exact hw.cell h.c1) ?_)
  have hw1 := h.new (New.drew w')
  have esub : IntKind.i64.wrap ((bs.length : Int) - (i : Int)) = (bs.length : Int) - i := wrap_i64 (by omega) (by omega)
  refine if_p (fun hl => ?_) (fun hl => ?_)
  · rw [esub] at hl
    rw [get_short hwk hl]
    exact ⟨rfl, hw1, (New.drew _).mod⟩
  rw [esub] at hl
  have hin : i + n ≤ bs.length := by omega
  obtain ⟨g1, g2⟩ := get_num sign bs i n hwk hin
  have ein : IntKind.i64.wrap ((i : Int) + (n : Int)) = ((i + n : Nat) : Int) := by
    rw [wrap_i64 (by omega) (by omega)]
    omega
  have hlc : ((bs.drop i).take n).length = n := by rw [List.length_take, List.length_drop]; omega
  refine draw_ ok (.q 0 (.q 1 (.q 2 (.q 3 (.q 4 (.q 5 (.q 6 (.q 7 (.q 8 (.q 9 (.q 10 (.q 11 (.q 12 (.q 13 (.q 14 (.q 15 (.e 16 (.q 17 (.q 18 (.q 19 (.q 20 (.q 21 .done)))))))))))))))))))))) [21] (New w'.drew) (by kernel_rfl) (by kernel_rfl) (by kernel_rfl) (by kernel_rfl) (by kernel_rfl) (New.drew _) ?_
  refine Exists.intro A (Exists.intro bs.length (Exists.intro c (And.intro (fun w'' hw => by rw [ad1]; exact hw.cell hw1.c0) ?_)))
  refine Exists.intro (i : Int) (And.intro (fun w'' hw => by rw [ad1]; exact hw.cell hw1.c1) ?_)
  refine Exists.intro (i : Int) (And.intro (fun w'' hw => by rw [ad1]; exact hw.cell hw1.c1) ?_)
  refine And.intro (by omega) (And.intro (by rw [ein]; omega) (And.intro (by rw [ein]; omega) ?_))
  have hw2 := hw1.new (New.drew _)
  have nn : New w' w'.drew.drew := (New.drew _).trans (New.drew _)
  refine call_ (Number_ok (slA A c i 1) _ _ ((bs.drop i).take n) sign w'.drew.drew (by rw [ein, hlc]; omega) (row_cut hw2.row hb i n) (by rw [hlc]; exact hwk)) ?_
  rintro e w3 ⟨rfl, rfl⟩
  refine ⟨_, rfl, ?_⟩
  refine Exists.intro (New w'.drew) (And.intro (fun _ h => h) (And.intro (New.drew _) ?_))
  generalize (num sign ((bs.drop i).take n)).1 = r1 at g1 g2
  generalize (num sign ((bs.drop i).take n)).2 = r2 at g1 g2
  refine if_n (fun hne => ?_) (fun he => ?_)
  · rw [g2 hne]
    exact ⟨rfl, hw2, nn.mod⟩
  · rw [g1 he]
    obtain ⟨hput, hmod⟩ := hw2.put (j := i + n) hin (v := .int .i64 (IntKind.i64.wrap ((i : Int) + (n : Int)))) (by rw [ein])
    refine Exists.intro (i : Int) (And.intro (by rw [ad1]; exact hw2.c1) (And.intro ⟨_, by rw [ad1]; exact hw2.c1⟩ (And.intro (by rw [ad1]; exact hw2.fz 1) ⟨rfl, ?_, ?_⟩)))
    · rw [ad1]
      exact hput
    · rw [ad1]
      exact Mod.trans nn.mod hmod fun _ _ h => h

/-- What bytes are read: so many, or why not; the place behind. -/
def getB (bs : List UInt8) (i : Nat) (n : Int) : List UInt8 × Int × Nat :=
  if n < 0 then ([], 2, i) else if (bs.length : Int) - i < n then ([], 7, i) else ((bs.drop i).take n.toNat, 0, i + n.toNat)
theorem RfBytes_ok (g : Nat) (A : Option Addr) (c : Nat) (bs : List UInt8) (i : Nat) (k : Int) (w : World) (h : Rf w g A c bs i) (hm : bs.length ≤ 140737488355328) :
    Calls Tryz.prog 68 #[.pointer (some ⟨g, 0, none⟩), .int .i64 k] w fun e w' => ∃ v, e = .returned (.tuple #[v, .int .i64 (getB bs i k).2.1]) ∧ w'.ownsRow w.heap.size 5 1 v (getB bs i k).1.length (bvs (getB bs i k).1) ∧ Rf w' g A c bs (getB bs i k).2.2 ∧ Mod (fun b => b = g) w w' := by
  refine enter ok Tryz.func68 rfl rfl rfl ?_
  have ha := h.at_
  have hb := h.cap
  have hc := h.top
  have nil : ∀ w' : World, w'.ownsRow w.heap.size 5 1 (.slice none 0 0) 0 (bvs []) := fun _ => ⟨rfl, .inl ⟨rfl, rfl⟩⟩
  refine if_p (fun hneg => ?_) (fun hneg => ?_)
  · have : getB bs i k = ([], 2, i) := by unfold getB; rw [if_pos hneg]
    rw [this]
    exact ⟨_, rfl, nil _, h, Mod.refl _ _⟩
  refine draw_ ok (.q 0 (.q 1 (.q 2 (.q 3 (.q 4 (.q 5 (.q 6 (.q 7 (.q 8 (.q 9 (.q 10 (.q 11 .done)))))))))))) [11] (New w) (by kernel_rfl) (by kernel_rfl) (by kernel_rfl) (by kernel_rfl) (by kernel_rfl) (New.drew w) ?_
  refine Exists.intro A (Exists.intro bs.length (Exists.intro c (And.intro (fun w'' hw => by rw [ad1]; exact hw.cell h.c0) ?_)))
  refine Exists.intro (i : Int) (And.intro (fun w'' hw => by rw [ad1]; exact hw.cell h.c1) ?_)
  have hw1 := h.new (New.drew w)
  have esub : IntKind.i64.wrap ((bs.length : Int) - (i : Int)) = (bs.length : Int) - i := wrap_i64 (by omega) (by omega)
  refine if_p (fun hl => ?_) (fun hl => ?_)
  · rw [esub] at hl
    have : getB bs i k = ([], 7, i) := by unfold getB; rw [if_neg hneg, if_pos hl]
    rw [this]
    exact ⟨_, rfl, nil _, hw1, (New.drew _).mod⟩
  rw [esub] at hl
  obtain ⟨n, rfl⟩ : ∃ n : Nat, k = n := ⟨k.toNat, by omega⟩
  have hin : i + n ≤ bs.length := by omega
  have hgb : getB bs i n = ((bs.drop i).take n, 0, i + n) := by unfold getB; rw [if_neg hneg, if_neg hl, Int.toNat_natCast]
  rw [hgb]
  have hlc : ((bs.drop i).take n).length = n := by rw [List.length_take, List.length_drop]; omega
  have ein : IntKind.i64.wrap ((i : Int) + (n : Int)) = ((i + n : Nat) : Int) := by
    rw [wrap_i64 (by omega) (by omega)]
    omega
  have eout : IntKind.i64.wrap (((i + n : Nat) : Int) - (n : Int)) = (i : Int) := by
    rw [wrap_i64 (by omega) (by omega)]
    omega
  obtain ⟨hput, hmod⟩ := hw1.put (j := i + n) hin (v := .int .i64 (IntKind.i64.wrap ((i : Int) + (n : Int)))) (by rw [ein])
  refine Exists.intro (i : Int) (And.intro (by rw [ad1]; exact hw1.c1) (And.intro ⟨_, by rw [ad1]; exact hw1.c1⟩ (And.intro (by rw [ad1]; exact hw1.fz 1) ?_)))
  replace hput : Rf (w.drew.setCell ((⟨g, 0, none⟩ : Addr).add 1) (.int .i64 (IntKind.i64.wrap ((i : Int) + (n : Int))))) g A c bs (i + n) := by rw [ad1]; exact hput
  have mm : Mod (fun b => b = g) w (w.drew.setCell ((⟨g, 0, none⟩ : Addr).add 1) (.int .i64 (IntKind.i64.wrap ((i : Int) + (n : Int))))) := by rw [ad1]; exact Mod.trans (New.drew w).mod hmod fun _ _ h => h
  have hs1 := mm.size
  refine draw_ ok (.q 1 (.q 2 (.q 3 (.q 4 (.q 5 (.q 6 (.q 7 (.q 8 (.q 9 (.q 10 (.q 11 (.q 12 (.q 13 (.q 14 (.q 15 (.e 0 (.e 16 (.q 17 (.q 18 .done))))))))))))))))))) [18] (New (w.drew.setCell ((⟨g, 0, none⟩ : Addr).add 1) (.int .i64 (IntKind.i64.wrap ((i : Int) + (n : Int)))))) (by kernel_rfl) (by kernel_rfl) (by kernel_rfl) (by kernel_rfl) (by kernel_rfl) (New.drew _) ?_
  refine Exists.intro A (Exists.intro bs.length (Exists.intro c (And.intro (fun w'' hw => by rw [ad1 g 0]; exact hw.cell hput.c0) ?_)))
  refine Exists.intro ((i + n : Nat) : Int) (And.intro (fun w'' hw => by have := hw.cell hput.c1; rw [← ad1] at this; exact this) ?_)
  refine Exists.intro ((i + n : Nat) : Int) (And.intro (fun w'' hw => by have := hw.cell hput.c1; rw [← ad1] at this; exact this) ?_)
  refine And.intro (by rw [eout]; omega) (And.intro (by rw [eout]; omega) (And.intro (by omega) ?_))
  have n3 : New (w.drew.setCell ((⟨g, 0, none⟩ : Addr).add 1) (.int .i64 (IntKind.i64.wrap ((i : Int) + (n : Int))))) ((w.drew.setCell ((⟨g, 0, none⟩ : Addr).add 1) (.int .i64 (IntKind.i64.wrap ((i : Int) + (n : Int))))).drew.alloc (.cells #[] 5)) := (New.drew (w.drew.setCell ((⟨g, 0, none⟩ : Addr).add 1) (.int .i64 (IntKind.i64.wrap ((i : Int) + (n : Int)))))).trans (New.alloc _ _)
  refine Exists.intro (New (w.drew.setCell ((⟨g, 0, none⟩ : Addr).add 1) (.int .i64 (IntKind.i64.wrap ((i : Int) + (n : Int)))))) (And.intro (fun _ h => h) (And.intro n3 ?_))
  refine eff_app rfl rfl (fun _ _ => rfl) ?_
  have hcut := row_cut (hput.row.new n3) hb i n
  refine append2_ ok rfl rfl rfl rfl (own_lit (w.drew.setCell ((⟨g, 0, none⟩ : Addr).add 1) (.int .i64 (IntKind.i64.wrap ((i : Int) + (n : Int))))).drew [] 5 1 0 w.heap.size hs1 rfl (by omega)) rfl rfl (news := bvs ((bs.drop i).take n)) (by rw [eout, Int.toNat_natCast]; exact hcut) (by rw [bvs_length, hlc, eout]; exact (show n = ((i + n : Nat) : Int).toNat - (i : Int).toNat by omega).trans (Nat.mul_one _).symm) (bvs_one _) (by decide) rfl (by rw [eout]; show (0 + (((i + n : Nat) : Int).toNat - (i : Int).toNat)) * 1 ≤ _; omega) (by rw [eout]; omega) (by simp) ?_
  intro A' c' w' hown hmod2 hst
  have nw : New (w.drew.setCell ((⟨g, 0, none⟩ : Addr).add 1) (.int .i64 (IntKind.i64.wrap ((i : Int) + (n : Int))))) w' := Mod.trans n3 hmod2 (by
    intro b hb e
    simp only [Value.ownBlock, Option.some.injEq] at e
    subst e
    exact absurd hb (Nat.lt_irrefl _))
  refine Exists.intro (New (w.drew.setCell ((⟨g, 0, none⟩ : Addr).add 1) (.int .i64 (IntKind.i64.wrap ((i : Int) + (n : Int)))))) (And.intro (fun _ h => h) (And.intro nw ?_))
  have el : 0 + (((i + n : Nat) : Int).toNat - (IntKind.i64.wrap (((i + n : Nat) : Int) - (n : Int))).toNat) = ((bs.drop i).take n).length := by rw [eout, hlc]; omega
  rw [el] at hown
  refine ⟨_, rfl, ?_, hput.new nw, Mod.trans mm nw (fun _ _ h => h.elim)⟩
  have e0 : ([] : List Value) ++ bvs ((bs.drop i).take n) = bvs ((bs.drop i).take n) := rfl
  rw [e0] at hown
  have e2 : (Value.slice A' (0 + (((i + n : Nat) : Int).toNat - (IntKind.i64.wrap (((i + n : Nat) : Int) - (n : Int))).toNat)) c') = .slice A' ((bs.drop i).take n).length c' := by rw [el]
  exact e2 ▸ hown
end Go.Proofs.YtdcaafldnbcdkaaGreatDoor.Word

/-! ### WRef3 -/
namespace Go.Proofs.YtdcaafldnbcdkaaGreatDoor.Word
open Go Go.Proofs.YtdcaafldnbcdkaaGreatDoor Go.Proofs.YtdcaafldnbcdkaaGreatDoor.Eng Go.Proofs
set_option maxRecDepth 10000

theorem own_base {w : World} {base b' : Nat} {e : TypeId} {size n : Nat} {v : Value} {xs : List Value} (h : w.ownsRow base e size v n xs) (hb : b' ≤ base) : w.ownsRow b' e size v n xs := by
  refine ⟨h.1, ?_⟩
  rcases h.2 with h' | ⟨g, cap, cur, rfl, hbg, rest⟩
  · exact .inl h'
  · exact .inr ⟨g, cap, cur, rfl, Nat.le_trans hb hbg, rest⟩
theorem RBytes_ok (g : Nat) (A : Option Addr) (c : Nat) (bs : List UInt8) (i : Nat) (k : Int) (w : World) (h : Rd w g A c bs i) (hm : bs.length ≤ 140737488355328) :
    Calls Tryz.prog 11 #[.pointer (some ⟨g, 0, none⟩), .int .i64 k] w fun e w' => ∃ v, e = .returned (.tuple #[v, .int .i64 (getB bs i k).2.1]) ∧ w'.ownsRow w.heap.size 5 1 v (getB bs i k).1.length (bvs (getB bs i k).1) ∧ Rd w' g A c bs (getB bs i k).2.2 ∧ Mod (fun b => b = g) w w' := by
  refine enter ok Tryz.func11 rfl rfl rfl ?_
  have ha := h.at_
  have hb := h.cap
  have hc := h.top
  have nil : ∀ w' : World, w'.ownsRow w.heap.size 5 1 (.slice none 0 0) 0 (bvs []) := fun _ => ⟨rfl, .inl ⟨rfl, rfl⟩⟩
  refine call_ (look_ok g A c bs i k (decide (0 ≤ k)) w h) ?_
  rintro e w1 ⟨rfl, h1⟩
  refine ⟨_, rfl, ?_⟩
  have hw1 := h.new h1
  have e1 : ∀ q : Int, (if decide (0 ≤ k) = true then if (bs.length : Int) - i < k then 7 else 0 else 2 : Int) = q → q ≠ 0 → getB bs i k = ([], q, i) := by
    intro q hq hne
    unfold getB
    by_cases h0 : 0 ≤ k
    · rw [if_pos (decide_eq_true h0)] at hq
      rw [if_neg (by omega)]
      by_cases hl : (bs.length : Int) - i < k
      · rw [if_pos hl] at hq ⊢
        rw [hq]
      · rw [if_neg hl] at hq
        exact absurd hq.symm hne
    · rw [if_neg (by simpa using h0)] at hq
      rw [if_pos (by omega), hq]
  have e2 : (if decide (0 ≤ k) = true then if (bs.length : Int) - i < k then 7 else 0 else 2 : Int) = 0 → 0 ≤ k ∧ ¬ (bs.length : Int) - i < k := by
    intro hq
    by_cases h0 : 0 ≤ k
    · rw [if_pos (decide_eq_true h0)] at hq
      by_cases hl : (bs.length : Int) - i < k
      · rw [if_pos hl] at hq
        cases hq
      · exact ⟨h0, hl⟩
    · rw [if_neg (by simpa using h0)] at hq
      cases hq
  generalize (if decide (0 ≤ k) = true then if (bs.length : Int) - i < k then 7 else 0 else 2 : Int) = q at e1 e2
  refine if_n (fun hne => ?_) (fun he => ?_)
  · rw [e1 q rfl hne]
    exact ⟨_, rfl, nil _, hw1, h1.mod⟩
  obtain ⟨h0, hl⟩ := e2 he
  obtain ⟨n, rfl⟩ : ∃ n : Nat, k = n := ⟨k.toNat, by omega⟩
  have hin : i + n ≤ bs.length := by omega
  have hgb : getB bs i n = ((bs.drop i).take n, 0, i + n) := by unfold getB; rw [if_neg (by omega), if_neg hl, Int.toNat_natCast]
  rw [hgb]
  have hlc : ((bs.drop i).take n).length = n := by rw [List.length_take, List.length_drop]; omega
  have ein : IntKind.i64.wrap ((i : Int) + (n : Int)) = ((i + n : Nat) : Int) := by
    rw [wrap_i64 (by omega) (by omega)]
    omega
  have eout : IntKind.i64.wrap (((i + n : Nat) : Int) - (n : Int)) = (i : Int) := by
    rw [wrap_i64 (by omega) (by omega)]
    omega
  obtain ⟨hput, hmod⟩ := hw1.put (j := i + n) hin (v := .int .i64 (IntKind.i64.wrap ((i : Int) + (n : Int)))) (by rw [ein])
  refine Exists.intro (i : Int) (And.intro (by rw [ad]; exact hw1.c1) (And.intro ⟨_, by rw [ad]; exact hw1.c1⟩ (And.intro (by rw [ad]; exact hw1.fz 1) ?_)))
  replace hput : Rd (w1.setCell (((⟨g, 0, none⟩ : Addr).add 0).add 1) (.int .i64 (IntKind.i64.wrap ((i : Int) + (n : Int))))) g A c bs (i + n) := by rw [ad]; exact hput
  have mm : Mod (fun b => b = g) w (w1.setCell (((⟨g, 0, none⟩ : Addr).add 0).add 1) (.int .i64 (IntKind.i64.wrap ((i : Int) + (n : Int))))) := by rw [ad]; exact Mod.trans h1.mod hmod fun _ _ h => h
  have hs1 := mm.size
  refine draw_ ok (.q 0 (.q 1 (.q 2 (.q 3 (.q 4 (.q 5 (.q 6 (.q 7 (.q 8 (.q 9 (.q 10 (.q 11 (.q 12 (.q 13 (.q 14 (.q 15 (.q 16 (.q 17 (.e 18 (.q 19 (.q 20 .done))))))))))))))))))))) [20] (New (w1.setCell (((⟨g, 0, none⟩ : Addr).add 0).add 1) (.int .i64 (IntKind.i64.wrap ((i : Int) + (n : Int)))))) (by kernel_rfl) (by kernel_rfl) (by kernel_rfl) (by kernel_rfl) (by kernel_rfl) (New.drew _) ?_
  refine Exists.intro A (Exists.intro bs.length (Exists.intro c (And.intro (fun w'' hw => by rw [ad g 0]; exact hw.cell hput.c0) ?_)))
  refine Exists.intro ((i + n : Nat) : Int) (And.intro (fun w'' hw => by have := hw.cell hput.c1; rw [← ad] at this; exact this) ?_)
  refine Exists.intro ((i + n : Nat) : Int) (And.intro (fun w'' hw => by have := hw.cell hput.c1; rw [← ad] at this; exact this) ?_)
  refine And.intro (by rw [eout]; omega) (And.intro (by rw [eout]; omega) (And.intro (by omega) ?_))
  have hcut := row_cut (hput.row.new (New.drew (w1.setCell (((⟨g, 0, none⟩ : Addr).add 0).add 1) (.int .i64 (IntKind.i64.wrap ((i : Int) + (n : Int))))))) hb i n
  refine call_ (Clone_ok _ _ _ ((bs.drop i).take n) (w1.setCell (((⟨g, 0, none⟩ : Addr).add 0).add 1) (.int .i64 (IntKind.i64.wrap ((i : Int) + (n : Int))))).drew (by rw [eout, hlc]; omega) (by rw [eout, Int.toNat_natCast]; exact hcut) (by rw [eout]; omega)) ?_
  rintro e w3 ⟨v, rfl, hown, n3⟩
  obtain ⟨A3, c3, rfl, _⟩ := own_slice hown
  refine ⟨_, rfl, ?_⟩
  have nw : New (w1.setCell (((⟨g, 0, none⟩ : Addr).add 0).add 1) (.int .i64 (IntKind.i64.wrap ((i : Int) + (n : Int))))) w3 := (New.drew (w1.setCell (((⟨g, 0, none⟩ : Addr).add 0).add 1) (.int .i64 (IntKind.i64.wrap ((i : Int) + (n : Int)))))).trans n3
  refine Exists.intro (New (w1.setCell (((⟨g, 0, none⟩ : Addr).add 0).add 1) (.int .i64 (IntKind.i64.wrap ((i : Int) + (n : Int)))))) (And.intro (fun _ h => h) (And.intro nw ?_))
  have el : ((i + n : Nat) : Int).toNat - (IntKind.i64.wrap (((i + n : Nat) : Int) - (n : Int))).toNat = ((bs.drop i).take n).length := by rw [eout, hlc]; omega
  rw [el] at hown
  have e2 : (Value.slice A3 (((i + n : Nat) : Int).toNat - (IntKind.i64.wrap (((i + n : Nat) : Int) - (n : Int))).toNat) c3) = .slice A3 ((bs.drop i).take n).length c3 := by rw [el]
  refine ⟨_, rfl, ?_, hput.new nw, Mod.trans mm nw (fun _ _ h => h.elim)⟩
  have hown' : w3.ownsRow w.heap.size 5 1 (.slice A3 ((bs.drop i).take n).length c3) ((bs.drop i).take n).length (bvs ((bs.drop i).take n)) := own_base hown (by simpa using hs1)
  exact e2 ▸ hown'

/-- Bytes written. -/
theorem WBytes_ok (base g : Nat) (v : Value) (bs : List UInt8) (C : Option Addr) (q qc : Nat) (ys : List UInt8) (w : World) (h : Wr w base g v bs) (hy : Row w C (bvs ys)) (hq : q = ys.length) (hm : bs.length + ys.length ≤ 140737488355328) (hbase : base ≤ w.heap.size) :
    Calls Tryz.prog 84 #[.pointer (some ⟨g, 0, none⟩), .slice C q qc] w fun e w' => e = .returned (.int .i64 0) ∧ ∃ v', Wr w' base g v' (bs ++ ys) ∧ Mod (WS g v) w w' ∧ stayed w v v' := by
  refine enter ok Tryz.func84 rfl rfl rfl ?_
  refine call_ (wis_ok _ true w h.is) ?_
  rintro e w' ⟨rfl, rfl⟩
  refine ⟨_, rfl, ?_⟩
  obtain ⟨A0, c0, rfl, _⟩ := own_slice h.own
  refine Exists.intro A0 (Exists.intro bs.length (Exists.intro c0 (And.intro (by rw [ad]; exact h.c0) ?_)))
  refine append2_ ok rfl rfl rfl rfl h.own rfl rfl hy (by rw [bvs_length, hq]; exact (Nat.mul_one _).symm) (bvs_one _) (by decide) rfl (by show (bs.length + q) * 1 ≤ _; omega) (by omega) hbase ?_
  intro A1 c1 w3 own3 mod3 st3
  have hgl := h.lt
  have hblk3 := mod3.blk h.blk (fun e => h.off e.symm)
  have hc3 : w3.cell? ⟨g, 0, none⟩ = some (.slice A0 bs.length c0) := by rw [cell_of_row _ _ 0 _ _ _ hblk3]; rfl
  have hl3 : bs.length + q = (bs ++ ys).length := by simp [hq]
  have hoff3 : (Value.slice A1 (bs.length + q) c1).ownBlock ≠ some g := by
    intro e
    rcases st3 g e with h1 | h1
    · exact h.off h1
    · omega
  rw [← bvs_append, hl3] at own3
  obtain ⟨wr4, mod4⟩ := Wr.set (bs := bs ++ ys) hblk3 own3 (by rw [← hl3]; exact hoff3)
  refine And.intro ⟨_, by rw [ad]; exact hc3⟩ (And.intro (by rw [ad]; exact frozen_of_row w3 g 0 _ _ hblk3) ?_)
  rw [← hl3] at wr4 mod4
  rw [ad]
  refine ⟨rfl, _, wr4, ?_, st3⟩
  exact Mod.trans (mod3.mono fun b _ e => .inr e) mod4 fun b _ e => .inl e
end Go.Proofs.YtdcaafldnbcdkaaGreatDoor.Word

/-! ### WRef4 -/
namespace Go.Proofs.YtdcaafldnbcdkaaGreatDoor.Word
open Go Go.Proofs.YtdcaafldnbcdkaaGreatDoor Go.Proofs.YtdcaafldnbcdkaaGreatDoor.Eng Go.Proofs
set_option maxRecDepth 10000

/-- What a patch does. -/
def pat (bs : List UInt8) (a k n : Int) : Int × List UInt8 := if wide k = true ∧ fits k n false = true ∧ 0 ≤ a ∧ a ≤ (bs.length : Int) - k then (0, patch bs a.toNat k.toNat n) else (2, bs)
/-- The document's bytes of a number; none: it does not fit. -/
def encOr (k n : Int) (sign : Bool) : List UInt8 := if (wide k && fits k n sign) = true then enc k.toNat n else []
theorem own_nil (w : World) (base : Nat) : w.ownsRow base 5 1 (.slice none 0 0) 0 (bvs []) := ⟨rfl, .inl ⟨rfl, rfl⟩⟩
theorem NBytes_ok (k n : Int) (sign : Bool) (w : World) (hlo : -9223372036854775808 ≤ n) (hup : n ≤ 9223372036854775807) :
    Calls Tryz.prog 116 #[.int .i64 k, .int .i64 n, .bool sign] w fun e w' => ∃ v, e = .returned (.tuple #[v, .bool (wide k && fits k n sign)]) ∧ w'.ownsRow w.heap.size 5 1 v (encOr k n sign).length (bvs (encOr k n sign)) ∧ New w w' := by
  refine enter ok Tryz.func116 rfl rfl rfl ?_
  have no : (wide k && fits k n sign) = false → ∃ v, Ending.returned (.tuple #[.slice none 0 0, .bool false]) = .returned (.tuple #[v, .bool (wide k && fits k n sign)]) ∧ w.ownsRow w.heap.size 5 1 v (encOr k n sign).length (bvs (encOr k n sign)) ∧ New w w := by
    intro hno
    unfold encOr
    rw [hno]
    exact ⟨_, rfl, own_nil _ _, New.refl _⟩
  refine call_ (refwide_ok k w) ?_
  rintro e w' ⟨rfl, rfl⟩
  refine ⟨_, rfl, ?_⟩
  refine if_ (fun hwk => ?_) (fun hwk => ?_)
  · exact no (by have : wide k = false := by simpa using hwk
                 rw [this, Bool.false_and])
  replace hwk : wide k = true := by simpa using hwk
  have hkc := wide_cases hwk
  obtain ⟨k, rfl⟩ : ∃ x : Nat, k = x := ⟨k.toNat, by omega⟩
  refine seq_cut (σ := Unit) (fun _ => [(0, .int .i64 k), (1, .int .i64 n), (2, .bool sign)]) (fun _ w2 => w2 = w' ∧ fits k n sign = true) ?_ ?_
  rotate_left
  · intro K hK
    have go : fits k n sign = true → ∀ fr, Slots fr [(0, .int .i64 k), (1, .int .i64 n), (2, .bool sign)] → K fr w' := fun hf fr hs => hK () fr w' hs ⟨rfl, hf⟩
    refine if_p (fun h8 => ?_) (fun h8 => ?_)
    · have hk8 : k = 8 := by omega
      have hf8 : fits k n sign = (sign || decide (0 ≤ n)) := by
        subst hk8
        simp [fits]
      cases sign with
      | true => exact go (by rw [hf8]; rfl) _ ⟨rfl, rfl, rfl, trivial⟩
      | false =>
        refine if_p (fun hneg => ?_) (fun hpos => ?_)
        · exact no (by rw [hwk, hf8, Bool.true_and, Bool.false_or]; exact decide_eq_false (by omega))
        · exact go (by rw [hf8, Bool.false_or]; exact decide_eq_true (by omega)) _ ⟨rfl, rfl, rfl, trivial⟩
    · have hk4 : k = 1 ∨ k = 2 ∨ k = 4 := by omega
      obtain ⟨ft, ff⟩ := fits_small k n hk4
      have h4 : 256 ^ k ≤ 256 ^ 4 := Nat.pow_le_pow_right (by decide) (by omega)
      have h4' : 256 ^ k ≤ 4294967296 := h4
      have he : (256 ^ k : Nat) % 2 = 0 := by rcases hk4 with rfl | rfl | rfl <;> rfl
      have hfull := fun w => full_ok k w (by omega)
      generalize 256 ^ k = q at ft ff h4' he hfull
      cases sign with
      | true =>
        refine call_ (hfull _) ?_
        rintro e w1 ⟨rfl, rfl⟩
        refine ⟨_, rfl, ?_⟩
        refine And.intro (by decide) ?_
        have eneg : IntKind.i64.wrap ((IntKind.i64.wrap (0 - (q : Int))).tdiv 2) = -((q : Int) / 2) := by
          rw [wrap_i64 (n := 0 - (q : Int)) (by omega) (by omega)]
          have : (0 - (q : Int)).tdiv 2 = -((q : Int) / 2) := by
            rw [Int.zero_sub, Int.neg_tdiv, Int.tdiv_eq_ediv_of_nonneg (by omega)]
          rw [this, wrap_i64 (by omega) (by omega)]
        have epos : IntKind.i64.wrap ((q : Int).tdiv 2) = (q : Int) / 2 := by
          rw [Int.tdiv_eq_ediv_of_nonneg (by omega), wrap_i64 (by omega) (by omega)]
        refine if_p (fun h1 => ?_) (fun h1 => ?_)
        · rw [eneg] at h1
          exact no (by rw [hwk, ft, Bool.true_and, decide_eq_false (show ¬ -((q : Int) / 2) ≤ n by omega), Bool.false_and])
        rw [eneg] at h1
        refine call_ (hfull _) ?_
        rintro e w2 ⟨rfl, rfl⟩
        refine ⟨_, rfl, ?_⟩
        refine And.intro (by decide) ?_
        refine if_p (fun h2 => ?_) (fun h2 => ?_)
        · rw [epos] at h2
          exact no (by rw [hwk, ft, Bool.true_and, decide_eq_false (show ¬ n < (q : Int) / 2 by omega), Bool.and_false])
        rw [epos] at h2
        exact go (by rw [ft, decide_eq_true (show -((q : Int) / 2) ≤ n by omega), decide_eq_true (show n < (q : Int) / 2 by omega)]; rfl) _ ⟨rfl, rfl, rfl, trivial⟩
      | false =>
        refine if_p (fun h1 => ?_) (fun h1 => ?_)
        · exact no (by rw [hwk, ff, Bool.true_and, decide_eq_false (show ¬ 0 ≤ n by omega), Bool.false_and])
        refine call_ (hfull _) ?_
        rintro e w2 ⟨rfl, rfl⟩
        refine ⟨_, rfl, ?_⟩
        refine if_p (fun h2 => ?_) (fun h2 => ?_)
        · exact no (by rw [hwk, ff, Bool.true_and, decide_eq_false (show ¬ n < (q : Int) by omega), Bool.and_false])
        exact go (by rw [ff, decide_eq_true (show 0 ≤ n by omega), decide_eq_true (show n < (q : Int) by omega)]; rfl) _ ⟨rfl, rfl, rfl, trivial⟩
  rintro s w2 fr0 ⟨rfl, hf⟩
  have hok : (wide (k : Int) && fits k n sign) = true := by rw [hwk, hf]; rfl
  have hen : encOr k n sign = enc k n := by unfold encOr; rw [if_pos hok, Int.toNat_natCast]
  rw [hok, hen, enc_length]
  refine make_ ok rfl rfl rfl rfl rfl rfl (n := k) (by show 1 * k ≤ _; omega) (by omega) rfl rfl ?_
  intro w3 own3 n3
  have hz0 : List.replicate k (Value.int .u8 0) = bvs (List.replicate k 0) := by
    unfold bvs
    rw [List.map_replicate]
    rfl
  have own3' : w3.ownsRow w2.heap.size 5 1 (.slice (some ⟨w2.heap.size, 0, none⟩) k k) k (bvs (filled k n k)) := by
    rw [filled_all, ← hz0]
    exact own3
  refine den_loop (σ := Nat) (fun m => [(8, .int .u64 (n % 18446744073709551616 / 256 ^ (k - m))), (9, .slice (some ⟨w2.heap.size, 0, none⟩) k k), (10, .int .i64 ((m : Int) - 1))])
    (fun m' m wl => m ≤ k ∧ m' = m ∧ wl.ownsRow w2.heap.size 5 1 (.slice (some ⟨w2.heap.size, 0, none⟩) k k) k (bvs (filled k n m)) ∧ New w2 wl) k k ?_ ⟨Nat.le_refl _, rfl, own3', n3⟩ ?_
  · refine ⟨?_, rfl, ?_, trivial⟩
    · show Value.int .u64 (IntKind.u64.wrap n) = _
      rw [wrap_u64, Nat.sub_self]
      simp
    · show Value.int .i64 (IntKind.i64.wrap _) = _
      rw [wrap_i64 (by omega) (by omega)]
  rintro m m0 wl fr1 ⟨hm, rfl, hown, hl⟩
  refine if_p (fun hge => ?_) (fun hlt => ?_)
  · obtain ⟨m, rfl⟩ : ∃ x, m = x + 1 := ⟨m - 1, by omega⟩
    have hcast : (((m + 1 : Nat) : Int) - 1).toNat = m := by omega
    have e0 : (⟨w2.heap.size, 0, none⟩ : Addr).add ((((m + 1 : Nat) : Int) - 1).toNat * 1) = ⟨w2.heap.size, m, none⟩ := by rw [hcast, Nat.mul_one, ad1]
    have hflen := filled_length k n (m + 1) (by omega)
    obtain ⟨hc, hfz, hst⟩ := own_store hown m (by rw [bvs_length, hflen]; omega)
    have hx0 : 0 ≤ n % 18446744073709551616 / 256 ^ (k - (m + 1)) := Int.ediv_nonneg (Int.emod_nonneg _ (by decide)) (Int.le_of_lt (Int.pow_pos (by decide)))
    refine And.intro (by decide) (And.intro (by omega) (And.intro (by omega) (And.intro ⟨_, by rw [e0]; exact hc⟩ (And.intro (by rw [e0]; exact hfz) (And.intro (by decide) ?_)))))
    have ev : Value.int .u8 (IntKind.u8.wrap ((n % 18446744073709551616 / 256 ^ (k - (m + 1))).tmod 256)) = bv (encAt k n m) := by
      rw [wrap_byte, Int.tmod_eq_emod_of_nonneg hx0, u64_div n (k - (m + 1)) (by omega)]
      have : k - 1 - m = k - (m + 1) := by omega
      unfold encAt
      rw [this, Int.emod_emod_of_dvd _ (Int.dvd_refl 256)]
    obtain ⟨own5, mod5⟩ := hst (bv (encAt k n m))
    rw [bvs_set, filled_set k n m (by omega)] at own5
    refine ⟨m, m, by omega, ⟨?_, rfl, ?_, trivial⟩, by omega, rfl, ?_, ?_⟩
    · show Value.int .u64 (IntKind.u64.wrap ((n % 18446744073709551616 / 256 ^ (k - (m + 1))).tdiv 256)) = _
      have hkm : k - m = k - (m + 1) + 1 := by omega
      rw [Int.tdiv_eq_ediv_of_nonneg hx0, hkm, Int.pow_succ, ← Int.ediv_ediv_of_nonneg (Int.le_of_lt (Int.pow_pos (by decide))), wrap_u64, Int.emod_eq_of_lt]
      · exact Int.ediv_nonneg hx0 (by decide)
      · have h1 : n % 18446744073709551616 / 256 ^ (k - (m + 1)) ≤ n % 18446744073709551616 := Int.ediv_le_self _ (Int.emod_nonneg _ (by decide))
        have h2 : n % 18446744073709551616 < 18446744073709551616 := Int.emod_lt_of_pos _ (by decide)
        generalize n % 18446744073709551616 / 256 ^ (k - (m + 1)) = y at hx0 h1
        omega
    · show Value.int .i64 (IntKind.i64.wrap _) = _
      rw [wrap_i64 (by omega) (by omega)]
      congr 1
      omega
    · rw [e0]
      have := own5
      rw [← ev] at this
      exact this
    · rw [e0]
      have := mod5
      rw [← ev] at this
      exact Mod.trans hl this fun b hb e => by omega
  · have : m = 0 := by omega
    subst this
    rw [filled_zero] at hown
    exact ⟨_, rfl, hown, hl⟩
end Go.Proofs.YtdcaafldnbcdkaaGreatDoor.Word

/-! ### WRef5 -/
namespace Go.Proofs.YtdcaafldnbcdkaaGreatDoor.Word
open Go Go.Proofs.YtdcaafldnbcdkaaGreatDoor Go.Proofs.YtdcaafldnbcdkaaGreatDoor.Eng Go.Proofs
set_option maxRecDepth 10000

theorem own_row {w : World} {base : Nat} {e : TypeId} {size n : Nat} {A : Option Addr} {c : Nat} {xs : List Value} (h : w.ownsRow base e size (.slice A n c) n xs) : n ≤ c ∧ c ≤ 9223372036854775807 ∧ Row w A xs ∧ ∀ a, A = some a → base ≤ a.block ∧ a.block < w.heap.size := by
  obtain ⟨A', c', he, h1, h2, h3, h4⟩ := own_slice h
  cases he
  exact ⟨h1, h2, h3, fun a ha => ⟨(h4 a ha).1, (h4 a ha).2.1⟩⟩
/-- Below the old end nothing is turned by what turns new blocks alone. -/
theorem New.of_own {w w1 w2 : World} {v : Value} {e : TypeId} {size n : Nat} {xs : List Value} (h : New w w1) (ho : w1.ownsRow w.heap.size e size v n xs) (k : Mod (fun b => some b = v.ownBlock) w1 w2) : New w w2 :=
  Mod.trans h k fun b hb e => by
    have := (ho.lt b e.symm).1
    omega
theorem good_false {k : Int} {sign : Bool} {zs : List Int} {i : Nat} (hi : i < zs.length) (h : (wide k && fits k zs[i] sign) = false) : good k sign zs = false := by
  unfold good
  cases hw : wide k with
  | false => rfl
  | true =>
    rw [hw, Bool.true_and] at h
    have : zs.any (fun n => !fits k n sign) = true := List.any_eq_true.mpr ⟨zs[i], List.getElem_mem hi, by rw [h]; rfl⟩
    rw [this]
    rfl
theorem Put_ok (A : Option Addr) (c : Nat) (bs : List UInt8) (k : Int) (sign : Bool) (C : Option Addr) (q qc : Nat) (zs : List Int) (w : World) (hr : Row w A (bvs bs)) (hc : bs.length ≤ c) (ht : c ≤ 9223372036854775807) (hz : Row w C (ivs zs)) (hq : q = zs.length)
    (hb : ∀ z ∈ zs, -9223372036854775808 ≤ z ∧ z ≤ 9223372036854775807) (hm : bs.length + 8 * zs.length ≤ 140737488355328) :
    Calls Tryz.prog 98 #[.slice A bs.length c, .int .i64 k, .bool sign, .slice C q qc] w fun e w' => ∃ A' c', e = .returned (.tuple #[.slice A' (allBs bs k sign zs).length c', .int .i64 (allErr k sign zs)]) ∧
      Row w' A' (bvs (allBs bs k sign zs)) ∧ (allBs bs k sign zs).length ≤ c' ∧ c' ≤ 9223372036854775807 ∧ New w w' ∧ ∀ a, A' = some a → A = some a ∨ w.heap.size ≤ a.block ∧ a.block < w'.heap.size := by
  refine enter ok Tryz.func98 rfl rfl rfl ?_
  refine append2_ ok rfl rfl rfl rfl (own_lit w [] 5 1 0 w.heap.size (Nat.le_refl _) rfl (by omega)) rfl rfl (hr.new (New.alloc _ _)) (by rw [bvs_length]; exact (Nat.mul_one _).symm) (bvs_one bs) (by decide) rfl (by show (0 + bs.length) * 1 ≤ _; omega) (by omega) (by simp) ?_
  intro A0 c0 w0 own0 mod0 _
  rw [Nat.zero_add] at own0
  replace own0 : w0.ownsRow w.heap.size 5 1 (.slice A0 bs.length c0) bs.length (bvs bs) := own0
  have n0 : New w w0 := Mod.trans (New.alloc w _) mod0 (by
    intro i hi h
    simp only [Value.ownBlock, Option.some.injEq] at h
    omega)
  have e0 : (Value.slice A0 (0 + bs.length) c0) = .slice A0 bs.length c0 := by rw [Nat.zero_add]
  refine call_ (refwide_ok k w0) ?_
  rintro e w1 ⟨rfl, rfl⟩
  refine ⟨_, rfl, ?_⟩
  have no : ∀ {w2 : World}, New w w2 → good k sign zs = false → ∃ A' c', Ending.returned (.tuple #[.slice A bs.length c, .int .i64 2]) = .returned (.tuple #[.slice A' (allBs bs k sign zs).length c', .int .i64 (allErr k sign zs)]) ∧
      Row w2 A' (bvs (allBs bs k sign zs)) ∧ (allBs bs k sign zs).length ≤ c' ∧ c' ≤ 9223372036854775807 ∧ New w w2 ∧ ∀ a, A' = some a → A = some a ∨ w.heap.size ≤ a.block ∧ a.block < w2.heap.size := by
    intro w2 n2 hg
    unfold allErr allBs
    rw [hg]
    exact ⟨A, c, rfl, hr.new n2, hc, ht, n2, fun a ha => .inl ha⟩
  refine if_ (fun hwk => ?_) (fun hwk => ?_)
  · exact no n0 (by
      have : wide k = false := by simpa using hwk
      unfold good
      rw [this]
      rfl)
  replace hwk : wide k = true := by simpa using hwk
  have hkc := wide_cases hwk
  refine den_loop (σ := Nat × Option Addr × Nat × Nat) (fun s => [(0, .slice A bs.length c), (1, .int .i64 k), (2, .bool sign), (3, .slice C q qc), (10, .slice s.2.1 s.2.2.1 s.2.2.2), (11, .int .i64 s.1)])
    (fun m s wl => s.1 ≤ q ∧ m = q - s.1 ∧ s.2.2.1 = (bs ++ (zs.take s.1).flatMap (enc k.toNat)).length ∧ wl.ownsRow w.heap.size 5 1 (.slice s.2.1 s.2.2.1 s.2.2.2) s.2.2.1 (bvs (bs ++ (zs.take s.1).flatMap (enc k.toNat))) ∧ New w wl ∧ (zs.take s.1).any (fun n => !fits k n sign) = false) q (0, A0, bs.length, c0) ⟨rfl, rfl, rfl, rfl, e0, rfl, trivial⟩
    ⟨Nat.zero_le _, rfl, by simp, by simpa using own0, n0, by simp⟩ ?_
  rintro m ⟨i, A1, n1, c1⟩ wl fr0 ⟨hi, rfl, hn1, own1, nl, hno⟩
  dsimp only at hi hn1 own1 nl hno
  have hlen : (bs ++ (zs.take i).flatMap (enc k.toNat)).length = bs.length + k.toNat * i := by rw [List.length_append, flat_length, List.length_take, Nat.min_eq_left (by omega)]
  have hki : k.toNat * i ≤ 8 * i := Nat.mul_le_mul_right _ (by omega)
  refine if_p (fun hlt => ?_) (fun hge => ?_)
  · have hi' : i < zs.length := by omega
    obtain ⟨a, rfl, hcell⟩ := (hz.new nl).at_ i (by simp [ivs]; omega)
    have hzv : (ivs zs)[i]'(by simp [ivs]; omega) = .int .i64 zs[i] := by simp [ivs]
    rw [hzv] at hcell
    obtain ⟨lo, up⟩ := hb zs[i] (List.getElem_mem hi')
    refine And.intro (by omega) (And.intro hlt (some_at rfl (Exists.intro _ (And.intro (by rw [Nat.mul_one, Int.toNat_natCast]; exact hcell) ?_))))
    refine call_ (NBytes_ok k zs[i] sign wl lo up) ?_
    rintro e w5 ⟨v, rfl, own5, n5⟩
    obtain ⟨A5, c5, rfl, _, _, row5, _⟩ := own_slice own5
    refine ⟨_, rfl, ?_⟩
    refine if_ (fun hbad => ?_) (fun hgood => ?_)
    · exact no (nl.trans n5) (good_false hi' (Bool.not_eq_true' _ ▸ hbad))
    replace hgood : (wide k && fits k zs[i] sign) = true := by simpa using hgood
    have hen : encOr k zs[i] sign = enc k.toNat zs[i] := by unfold encOr; rw [if_pos hgood]
    rw [hen] at row5
    have hfit : fits k zs[i] sign = true := by rw [hwk, Bool.true_and] at hgood; exact hgood
    have own6 := own_new n5 own1
    have hl5 : (encOr k zs[i] sign).length = k.toNat := by rw [hen, enc_length]
    refine append2_ ok rfl rfl rfl rfl own6 rfl rfl row5 (by rw [bvs_length, hl5, enc_length]; exact (Nat.mul_one _).symm) (bvs_one _) (by decide) rfl (by rw [hl5]; show (n1 + k.toNat) * 1 ≤ _; omega) (by rw [hl5]; omega) (Nat.le_trans nl.size n5.size) ?_
    intro A7 c7 w7 own7 mod7 _
    have n7 := New.of_own (nl.trans n5) own6 mod7
    refine ⟨q - (i + 1), (i + 1, A7, n1 + k.toNat, c7), by omega, ⟨rfl, rfl, rfl, rfl, ?_, ?_, trivial⟩, by show i + 1 ≤ q; omega, rfl, ?_, ?_, n7, ?_⟩
    · show Value.slice A7 (n1 + (encOr k zs[i] sign).length) c7 = _
      rw [hl5]
    · show Value.int .i64 (IntKind.i64.wrap _) = _
      rw [wrap_i64 (by omega) (by omega)]
      rfl
    · show n1 + k.toNat = _
      rw [flat_take zs _ i hi', ← List.append_assoc, List.length_append, enc_length, ← hn1]
    · show w7.ownsRow w.heap.size 5 1 (.slice A7 (n1 + k.toNat) c7) (n1 + k.toNat) (bvs (bs ++ (zs.take (i + 1)).flatMap (enc k.toNat)))
      rw [flat_take zs _ i hi', ← List.append_assoc, bvs_append]
      rw [hl5] at own7
      exact own7
    · show (zs.take (i + 1)).any _ = false
      rw [List.take_succ_eq_append_getElem hi', List.any_append, hno, Bool.false_or, List.any_cons, List.any_nil, Bool.or_false, hfit]
      rfl
  · have : i = q := by omega
    subst this
    rw [hq, List.take_length] at hno hn1 own1
    have hg : good k sign zs = true := by
      unfold good
      rw [hwk, hno]
      rfl
    unfold allErr allBs
    rw [hg, if_pos rfl, if_pos rfl]
    subst hn1
    obtain ⟨h1, h2, h3, h4⟩ := own_row own1
    exact ⟨_, _, rfl, h3, h1, h2, nl, fun a ha => .inr (h4 a ha)⟩

end Go.Proofs.YtdcaafldnbcdkaaGreatDoor.Word

/-! ### WPut -/
namespace Go.Proofs.YtdcaafldnbcdkaaGreatDoor.Word
open Go Go.Proofs.YtdcaafldnbcdkaaGreatDoor Go.Proofs.YtdcaafldnbcdkaaGreatDoor.Eng Go.Proofs Go.Proofs.YtdcaafldnbcdkaaGreatDoor.Fmt
set_option maxRecDepth 10000

/-- What a writer's act leaves: its bytes, and all else as it was. -/
structure Wk (w : World) (base g : Nat) (v : Value) (w' : World) (v' : Value) (bs : List UInt8) : Prop where
  wr : Wr w' base g v' bs
  mod : Mod (WS g v) w w'
  st : stayed w v v'
theorem Wk.refl {w : World} {base g : Nat} {v : Value} {bs : List UInt8} (h : Wr w base g v bs) : Wk w base g v w v bs := ⟨h, (New.refl w).mod, stayed.refl w v⟩
theorem Wk.new {w w' w2 : World} {base g : Nat} {v v' : Value} {bs : List UInt8} (h : Wk w base g v w' v' bs) (k : New w' w2) : Wk w base g v w2 v' bs :=
  ⟨h.wr.new k, Mod.trans h.mod k (fun _ _ e => False.elim e), h.st⟩
theorem Wk.then {w w1 w2 : World} {base g : Nat} {v v1 v2 : Value} {bs bs2 : List UInt8} (h : Wk w base g v w1 v1 bs) (k : Wk w1 base g v1 w2 v2 bs2) : Wk w base g v w2 v2 bs2 := by
  refine ⟨k.wr, Mod.trans h.mod k.mod ?_, stayed.trans h.st h.mod.size k.st⟩
  rintro b hb (e | e)
  · exact .inl e
  · rcases h.st b e.symm with h1 | h1
    · exact .inr h1.symm
    · omega
theorem Wr.vlt {w : World} {base g : Nat} {v : Value} {bs : List UInt8} (h : Wr w base g v bs) {b : Nat} (hb : v.ownBlock = some b) : base ≤ b ∧ b < w.heap.size := h.own.lt b hb
/-- Numbers of an own block are none of the writer's. -/
theorem Wr.off1 {w : World} {base g : Nat} {v : Value} {bs : List UInt8} (h : Wr w base g v bs) {zs : List Int} : ∀ a : Addr, some (⟨w.heap.size, 0, none⟩ : Addr) = some a → zs ≠ [] → ¬ WS g v a.block := by
  intro a ha _
  cases ha
  rintro (e | e)
  · exact absurd (Eq.symm e) (Nat.ne_of_lt h.lt)
  · exact absurd (h.vlt e.symm).2 (Nat.lt_irrefl _)
theorem good_one {k : Nat} {sign : Bool} {z : Int} (hk : wide (k : Int) = true) (hf : fits (k : Int) z sign = true) : good k sign [z] = true := by
  unfold good
  rw [hk, List.any_cons, hf]
  rfl
theorem good_two {k : Nat} {sign : Bool} {a b : Int} (hk : wide (k : Int) = true) (ha : fits (k : Int) a sign = true) (hb : fits (k : Int) b sign = true) : good k sign [a, b] = true := by
  unfold good
  rw [hk, List.any_cons, List.any_cons, ha, hb]
  rfl
theorem two_i64 (w : World) (a b : Int) : Row (w.alloc (.cells #[.int .i64 a, .int .i64 b] 3)) (some ⟨w.heap.size, 0, none⟩) (ivs [a, b]) := row_alloc w [.int .i64 a, .int .i64 b] _ _
theorem wk_of {w w' : World} {o : Obj} {base g : Nat} {v v' : Value} {bs : List UInt8} (h : Wr w base g v bs) {qs : List UInt8} (h1 : Wr w' base g v' qs) (h2 : Mod (WS g v) (w.alloc o) w') (h3 : stayed (w.alloc o) v v') : Wk w base g v w' v' qs :=
  (Wk.refl h).new (New.alloc w o) |>.then ⟨h1, h2, h3⟩
theorem WU1 (base g : Nat) (v : Value) (bs : List UInt8) (k : Nat) (z : Int) (w : World) (h : Wr w base g v bs) (hk : wide (k : Int) = true) (hf : fits (k : Int) z false = true) (hm : bs.length ≤ 1000000000) (hb : base ≤ w.heap.size) :
    Calls Tryz.prog 48 #[.pointer (some ⟨g, 0, none⟩), .int .i64 (k : Int), .slice (some ⟨w.heap.size, 0, none⟩) 1 1] (w.alloc (.cells #[.int .i64 z] 3)) fun e w' => e = .returned (.int .i64 0) ∧ ∃ v', Wk w base g v w' v' (bs ++ enc k z) := by
  have a1 := New.alloc w (.cells #[.int .i64 z] 3)
  refine (WU_ok base g v bs k (some ⟨w.heap.size, 0, none⟩) 1 1 [z] _ (h.new a1) (one_i64 w z) rfl h.off1 (by simp; omega) (Nat.le_trans hb a1.size)).mono ?_
  rintro e w' ⟨rfl, v', h1, h2, h3⟩
  have hg := good_one hk hf
  refine ⟨by unfold allErr; rw [if_pos hg], v', ?_⟩
  unfold allBs at h1
  rw [if_pos hg] at h1
  have := wk_of h h1 h2 h3
  simpa using this
theorem WS1 (base g : Nat) (v : Value) (bs : List UInt8) (k : Nat) (z : Int) (w : World) (h : Wr w base g v bs) (hk : wide (k : Int) = true) (hf : fits (k : Int) z true = true) (hm : bs.length ≤ 1000000000) (hb : base ≤ w.heap.size) :
    Calls Tryz.prog 85 #[.pointer (some ⟨g, 0, none⟩), .int .i64 (k : Int), .slice (some ⟨w.heap.size, 0, none⟩) 1 1] (w.alloc (.cells #[.int .i64 z] 3)) fun e w' => e = .returned (.int .i64 0) ∧ ∃ v', Wk w base g v w' v' (bs ++ enc k z) := by
  have a1 := New.alloc w (.cells #[.int .i64 z] 3)
  refine (WS_ok base g v bs k (some ⟨w.heap.size, 0, none⟩) 1 1 [z] _ (h.new a1) (one_i64 w z) rfl h.off1 (by simp; omega) (Nat.le_trans hb a1.size)).mono ?_
  rintro e w' ⟨rfl, v', h1, h2, h3⟩
  have hg := good_one hk hf
  refine ⟨by unfold allErr; rw [if_pos hg], v', ?_⟩
  unfold allBs at h1
  rw [if_pos hg] at h1
  have := wk_of h h1 h2 h3
  simpa using this
theorem WU2 (base g : Nat) (v : Value) (bs : List UInt8) (k : Nat) (a b : Int) (w : World) (h : Wr w base g v bs) (hk : wide (k : Int) = true) (ha : fits (k : Int) a false = true) (hb' : fits (k : Int) b false = true) (hm : bs.length ≤ 1000000000) (hb : base ≤ w.heap.size) :
    Calls Tryz.prog 48 #[.pointer (some ⟨g, 0, none⟩), .int .i64 (k : Int), .slice (some ⟨w.heap.size, 0, none⟩) 2 2] (w.alloc (.cells #[.int .i64 a, .int .i64 b] 3)) fun e w' => e = .returned (.int .i64 0) ∧ ∃ v', Wk w base g v w' v' (bs ++ (enc k a ++ enc k b)) := by
  have a1 := New.alloc w (.cells #[.int .i64 a, .int .i64 b] 3)
  refine (WU_ok base g v bs k (some ⟨w.heap.size, 0, none⟩) 2 2 [a, b] _ (h.new a1) (two_i64 w a b) rfl h.off1 (by simp; omega) (Nat.le_trans hb a1.size)).mono ?_
  rintro e w' ⟨rfl, v', h1, h2, h3⟩
  have hg := good_two hk ha hb'
  refine ⟨by unfold allErr; rw [if_pos hg], v', ?_⟩
  unfold allBs at h1
  rw [if_pos hg] at h1
  have := wk_of h h1 h2 h3
  simpa using this
theorem WB1 (base g : Nat) (v : Value) (bs : List UInt8) (C : Option Addr) (q qc : Nat) (ys : List UInt8) (w : World) (h : Wr w base g v bs) (hy : Row w C (bvs ys)) (hq : q = ys.length) (hm : bs.length + ys.length ≤ 1000000000) (hb : base ≤ w.heap.size) :
    Calls Tryz.prog 84 #[.pointer (some ⟨g, 0, none⟩), .slice C q qc] w fun e w' => e = .returned (.int .i64 0) ∧ ∃ v', Wk w base g v w' v' (bs ++ ys) := by
  refine (WBytes_ok base g v bs C q qc ys w h hy hq (by omega) hb).mono ?_
  rintro e w' ⟨rfl, v', h1, h2, h3⟩
  exact ⟨rfl, v', h1, h2, h3⟩
end Go.Proofs.YtdcaafldnbcdkaaGreatDoor.Word

/-! ### Says -/
namespace Go.Proofs.YtdcaafldnbcdkaaGreatDoor.Pool
open Go Go.Proofs.YtdcaafldnbcdkaaGreatDoor Go.Proofs.YtdcaafldnbcdkaaGreatDoor.Eng Go.Proofs Go.Proofs.YtdcaafldnbcdkaaGreatDoor.Word Go.Proofs.YtdcaafldnbcdkaaGreatDoor.Fmt
set_option maxRecDepth 10000

/-- A number read, unless there was an error. -/
def numR (bs : List UInt8) (sign : Bool) (k : Nat) (s : Nat × Int) : Int × Nat × Int :=
  if s.2 = 0 then ((get sign bs s.1 k).1, (get sign bs s.1 k).2.2, (get sign bs s.1 k).2.1) else (0, s.1, s.2)
/-- A reading that is what a format says. -/
def Says {α : Type} (bs : List UInt8) (i : Nat) (p : Option (α × List UInt8)) (q : α × Nat × Int) : Prop :=
  (∃ v j, p = some (v, bs.drop j) ∧ q = (v, j, 0) ∧ i ≤ j ∧ j ≤ bs.length) ∨ (p = none ∧ q.2.2 ≠ 0 ∧ i ≤ q.2.1 ∧ q.2.1 ≤ bs.length)
theorem says_num (bs : List UInt8) (sign : Bool) (k : Nat) (hk : wide (k : Int) = true) (i : Nat) (hi : i ≤ bs.length) : Says bs i ((num k sign hk).parse (bs.drop i)) (numR bs sign k (i, 0)) := by
  unfold numR
  rw [if_pos rfl]
  rcases get_num k sign hk bs i hi with ⟨v, h1, h2, h3⟩ | ⟨h1, e, he, h2⟩
  · exact .inl ⟨v, i + k, h1, by rw [h2], by omega, h3⟩
  · refine .inr ⟨h1, ?_, ?_, ?_⟩ <;> rw [h2]
    · exact he
    · exact Nat.le_refl _
    · exact hi
theorem numR_err (bs : List UInt8) (sign : Bool) (k : Nat) {s : Nat × Int} (h : s.2 ≠ 0) : numR bs sign k s = (0, s) := by unfold numR; rw [if_neg h]
theorem says_via {α β : Type} {bs : List UInt8} {i : Nat} {F : Fmt α} (to : α → β) (from_ : β → α) (h1 : ∀ x, F.ok x → from_ (to x) = x) {q : α × Nat × Int} (h : Says bs i (F.parse (bs.drop i)) q) : Says bs i ((via F to from_ h1).parse (bs.drop i)) (to q.1, q.2) := by
  rcases h with ⟨v, j, e1, e2, e3, e4⟩ | ⟨e1, e2⟩
  · refine .inl ⟨to v, j, ?_, by rw [e2], e3, e4⟩
    show (F.parse (bs.drop i)).map _ = _
    rw [e1]
    rfl
  · refine .inr ⟨?_, e2⟩
    show (F.parse (bs.drop i)).map _ = _
    rw [e1]
    rfl
theorem Says.trans {α β : Type} {bs : List UInt8} {i : Nat} {F : Fmt α} {G : α → Fmt β} {q : α × Nat × Int} {r : α × Nat × Int → β × Nat × Int} (h : Says bs i (F.parse (bs.drop i)) q)
    (hr : ∀ v j, i ≤ j → j ≤ bs.length → Says bs j ((G v).parse (bs.drop j)) (r (v, j, 0))) (he : q.2.2 ≠ 0 → (r q).2 = q.2) : Says bs i ((dseq F G).parse (bs.drop i)) ((q.1, (r q).1), (r q).2) := by
  have hp : (dseq F G).parse (bs.drop i) = (F.parse (bs.drop i)).bind fun p => ((G p.1).parse p.2).map fun q => ((p.1, q.1), q.2) := by
    rfl
  rw [hp]
  rcases h with ⟨v, j, e1, e2, e3, e4⟩ | ⟨e1, e2, e3⟩
  · subst e2
    rw [e1, Option.bind_some]
    rcases hr v j e3 e4 with ⟨u, k, f1, f2, f3, f4⟩ | ⟨f1, f2, f3, f4⟩
    · refine .inl ⟨(v, u), k, ?_, by rw [f2], by omega, f4⟩
      simp only
      rw [f1]
      rfl
    · refine .inr ⟨?_, f2, by simp only; omega, f4⟩
      simp only
      rw [f1]
      rfl
  · rw [e1]
    refine .inr ⟨rfl, ?_, ?_, ?_⟩ <;> simp only [he e2]
    · exact e2
    · exact e3.1
    · exact e3.2
theorem rd_modN {S : Nat → Prop} {w w' : World} {g : Nat} {A : Option Addr} {c : Nat} {bs : List UInt8} {i : Nat} (h : Rd w g A c bs i) (k : Mod S w w') (hg : ¬ S g) (ha : ∀ a, A = some a → bs ≠ [] → ¬ S a.block) : Rd w' g A c bs i :=
  ⟨k.blk h.blk hg, row_modN h.row k ha, h.off, h.at_, h.cap, h.top⟩
theorem rd_low {w : World} {g : Nat} {A : Option Addr} {c : Nat} {bs : List UInt8} {i : Nat} (h : Rd w g A c bs i) : ∀ a, A = some a → bs ≠ [] → a.block < w.heap.size := row_low h.row
/-- What reading may turn. -/
abbrev RS (h g : Nat) : Nat → Prop := fun b => b = g ∨ b = h
theorem both {S : Nat → Prop} {a b c : World} (h : Mod S a b) (k : Mod S b c) : Mod S a c := Mod.trans h k fun _ _ h => h
theorem own_low {w : World} {b b' : Nat} {e : TypeId} {sz n : Nat} {v : Value} {xs : List Value} (h : w.ownsRow b' e sz v n xs) (hb : b ≤ b') : w.ownsRow b e sz v n xs :=
  ⟨h.1, h.2.imp id fun ⟨g, cap, cur, e, hg, r⟩ => ⟨g, cap, cur, e, Nat.le_trans hb hg, r⟩⟩
end Go.Proofs.YtdcaafldnbcdkaaGreatDoor.Pool

/-! ### KWMath -/
namespace Go.Proofs.YtdcaafldnbcdkaaGreatDoor.Class
open Go Go.Proofs.YtdcaafldnbcdkaaGreatDoor Go.Proofs.YtdcaafldnbcdkaaGreatDoor.Eng Go.Proofs Go.Proofs.YtdcaafldnbcdkaaGreatDoor.Word Go.Proofs.YtdcaafldnbcdkaaGreatDoor.Fmt
open Go.Proofs.YtdcaafldnbcdkaaGreatDoor.Pool (Ent at_ poolF)
set_option maxRecDepth 10000

abbrev WT := List UInt8 × Bool
/-- A writing that is what a telling says, or bad. -/
def Wri {α : Type} (T : Tell α) (c : Nat) (t : WT) (x : α) (t' : WT) : Prop :=
  t'.1.length ≤ t.1.length + c ∧ ((t'.2 = true ∧ (t.2 = true ∨ ¬ T.ok x)) ∨ (t'.2 = false ∧ t.2 = false ∧ T.ok x ∧ t'.1 = t.1 ++ T.enc x))
section
variable {α β : Type} {T : Tell α} {U : Tell β} {t t1 t2 : WT} {x : α} {y : β} {c d : Nat}
theorem Wri.dseq {U : α → Tell β} (h : Wri T c t x t1) (k : Wri (U x) d t1 y t2) : Wri (dseqT T U) (c + d) t (x, y) t2 := by
  obtain ⟨h1, h2⟩ := h
  obtain ⟨k1, k2⟩ := k
  refine ⟨by omega, ?_⟩
  rcases k2 with ⟨a, b⟩ | ⟨a, b, e, f⟩
  · refine .inl ⟨a, ?_⟩
    rcases h2 with ⟨p, q⟩ | ⟨p, q, r, s⟩
    · exact q.imp id fun q o => q o.1
    · rcases b with b | b
      · rw [p] at b; cases b
      · exact .inr fun o => b o.2
  · rcases h2 with ⟨p, q⟩ | ⟨p, q, r, s⟩
    · rw [b] at p; cases p
    · refine .inr ⟨a, q, ⟨r, e⟩, ?_⟩
      rw [f, s, List.append_assoc]
      rfl
theorem Wri.seq (h : Wri T c t x t1) (k : Wri U d t1 y t2) : Wri (seqT T U) (c + d) t (x, y) t2 := Wri.dseq h k
/-- What must be is looked at first. -/
theorem Wri.by {f : β → α} {P : β → Prop} {hf : ∀ x y, P x → P y → f x = f y → x = y} {b p : Bool} (h : Wri T c (t.1, b) (f y) t1) (hb : b = (t.2 || !p)) (e : p = true ↔ P y) : Wri (byT T f P hf) c t y t1 := by
  subst hb
  refine ⟨h.1, ?_⟩
  rcases h.2 with ⟨a, b⟩ | ⟨a, b, o, s⟩
  · refine .inl ⟨a, ?_⟩
    rcases b with b | b
    · rw [Bool.or_eq_true] at b
      rcases b with b | b
      · exact .inl b
      · refine .inr fun o => ?_
        rw [e.2 o.1] at b
        cases b
    · exact .inr fun o => b o.2
  · rw [Bool.or_eq_false_iff] at b
    refine .inr ⟨a, b.1, ⟨e.1 ?_, o⟩, s⟩
    have := b.2
    revert this
    cases p <;> decide
theorem Wri.by_ {f : β → α} {hf : ∀ x y : β, True → True → f x = f y → x = y} (h : Wri T c t (f y) t1) : Wri (byT T f (fun _ => True) hf) c t y t1 :=
  Wri.by (b := t.2) (p := true) h (by simp) (by simp)
theorem Wri.le (h : Wri T c t x t1) (hd : c ≤ d) : Wri T d t x t1 := ⟨Nat.le_trans h.1 (by omega), h.2⟩
theorem Wri.bad (h : t.2 = true) (c : Nat) (x : α) : Wri T c t x t := ⟨Nat.le_add_right _ _, .inl ⟨h, .inl h⟩⟩
/-- What must be, and is of what may be told. -/
theorem Wri.pre {b : Bool} (h : Wri T c (t.1, t.2 || !b) x t1) (e : T.ok x → b = true) : Wri T c t x t1 := by
  refine ⟨h.1, ?_⟩
  rcases h.2 with ⟨p, q⟩ | ⟨p, q, r, s⟩
  · refine .inl ⟨p, ?_⟩
    rcases q with q | q
    · rw [Bool.or_eq_true] at q
      rcases q with q | q
      · exact .inl q
      · refine .inr fun o => ?_
        rw [e o] at q
        cases q
    · exact .inr q
  · rw [Bool.or_eq_false_iff] at q
    exact .inr ⟨p, q.1, r, s⟩
theorem Wri.nok (h : t1.2 = true) (hl : t1.1.length ≤ t.1.length + c) (hn : ¬ T.ok x) : Wri T c t x t1 := ⟨hl, .inl ⟨h, .inr hn⟩⟩
theorem Wri.assoc {γ : Type} {V : Tell γ} {z : γ} (h : Wri (seqT (seqT T U) V) c t ((x, y), z) t1) : Wri (seqT T (seqT U V)) c t (x, y, z) t1 := by
  refine ⟨h.1, ?_⟩
  rcases h.2 with ⟨a, b⟩ | ⟨a, b, o, s⟩
  · exact .inl ⟨a, b.imp id fun b o => b ⟨⟨o.1, o.2.1⟩, o.2.2⟩⟩
  · refine .inr ⟨a, b, ⟨o.1.1, o.1.2, o.2⟩, ?_⟩
    rw [s]
    show t.1 ++ ((T.enc x ++ U.enc y) ++ V.enc z) = t.1 ++ (T.enc x ++ (U.enc y ++ V.enc z))
    rw [List.append_assoc]
/-! ### Numbers -/
def noteU (t : WT) (k : Nat) (zs : List Int) : WT := (allBs t.1 k false zs, t.2 || !good k false zs)
theorem noteU_le (t : WT) (k : Nat) (zs : List Int) : (noteU t k zs).1.length ≤ t.1.length + k * zs.length := by
  unfold noteU allBs
  dsimp only
  split
  · rw [List.length_append]
    have : ∀ l : List Int, (l.flatMap fun n => enc k n).length = k * l.length := fun l => by
      induction l with
      | nil => rfl
      | cons a r ih => rw [List.flatMap_cons, List.length_append, ih, enc_length, List.length_cons, Nat.mul_add]; omega
    have h2 : (zs.flatMap (enc k)).length = k * zs.length := this zs
    simp only [Int.toNat_natCast]
    omega
  · omega
theorem Wri.num {k : Nat} (hk : wide (k : Int) = true) {n : Int} (hn : fits (k : Int) n false = true → i64 n) : Wri (tF (Fmt.num k false hk)) k t n (noteU t k [n]) := by
  have hg : good k false [n] = fits (k : Int) n false := by
    unfold good
    rw [hk]
    simp
  unfold noteU allBs
  rw [hg]
  cases hf : fits (k : Int) n false with
  | false =>
    refine ⟨by simp, .inl ⟨by simp, .inr fun o => ?_⟩⟩
    have h1 := o.1
    rw [hf] at h1
    cases h1
  | true =>
    refine ⟨by simp [enc_length], ?_⟩
    cases ht : t.2 with
    | true => exact .inl ⟨by simp, .inl rfl⟩
    | false => exact .inr ⟨by simp, rfl, ⟨hf, hn hf⟩, by simp [Fmt.num, tF]⟩
theorem fits_i64 {k : Nat} (hk : k = 1 ∨ k = 2 ∨ k = 4) {n : Int} (h : fits (k : Int) n false = true) : i64 n := by
  unfold fits at h
  unfold i64
  rcases hk with rfl | rfl | rfl <;> simp at h <;> omega
theorem Wri.n1 {n : Int} : Wri n1 1 t n (noteU t 1 [n]) := Wri.num Pool.w1 (fits_i64 (.inl rfl))
theorem Wri.n2 {n : Int} : Wri n2 2 t n (noteU t 2 [n]) := Wri.num Pool.w2 (fits_i64 (.inr (.inl rfl)))
theorem Wri.n4 {n : Int} : Wri n4 4 t n (noteU t 4 [n]) := Wri.num Pool.w4 (fits_i64 (.inr (.inr rfl)))
theorem good_cons {k : Nat} {n : Int} {zs : List Int} (hk : wide (k : Int) = true) : good k false (n :: zs) = (fits (k : Int) n false && good k false zs) := by
  unfold good
  rw [hk]
  simp [List.any_cons, Bool.not_or]
/-- Numbers together, and one by one. -/
theorem noteU_cons {k : Nat} (hk : wide (k : Int) = true) (t : WT) (n : Int) (zs : List Int) : (noteU t k (n :: zs)).2 = (noteU (noteU t k [n]) k zs).2 ∧ ((noteU t k (n :: zs)).2 = false → noteU t k (n :: zs) = noteU (noteU t k [n]) k zs) := by
  have g1 := good_cons (n := n) (zs := zs) hk
  have g2 := good_cons (n := n) (zs := []) hk
  have g0 : good k false [] = true := by unfold good; rw [hk]; rfl
  rw [g0, Bool.and_true] at g2
  unfold noteU allBs
  dsimp only
  rw [g1, g2]
  cases fits (k : Int) n false with
  | false => simp
  | true =>
    cases good k false zs with
    | false => simp
    | true => simp
theorem Wri.more {k : Nat} {zs : List Int} {n : Int} (hk : wide (k : Int) = true) {e : Nat} (he : k * (zs.length + 1) ≤ e) (h : Wri U c (noteU t k [n]) y (noteU (noteU t k [n]) k zs)) (hn : fits (k : Int) n false = true → i64 n) : Wri (seqT (tF (Fmt.num k false hk)) U) e t (n, y) (noteU t k (n :: zs)) := by
  have h1 := Wri.seq (Wri.num hk hn) h
  obtain ⟨a, b⟩ := noteU_cons hk t n zs
  refine ⟨Nat.le_trans (noteU_le _ _ _) (by rw [List.length_cons]; omega), ?_⟩
  rw [a]
  rcases h1.2 with h2 | ⟨p, q, r, s⟩
  · exact .inl h2
  · exact .inr ⟨p, q, r, by rw [b (by rw [a]; exact p)]; exact s⟩
theorem Wri.two {a b : Int} : Wri (seqT Class.n2 Class.n2) 4 t (a, b) (noteU t 2 [a, b]) :=
  Wri.more Pool.w2 (by simp) Wri.n2 (fits_i64 (.inr (.inl rfl)))
theorem Wri.four {a b c d : Int} : Wri (seqT Class.n2 (seqT Class.n2 (seqT Class.n2 Class.n2))) 8 t (a, b, c, d) (noteU t 2 [a, b, c, d]) :=
  Wri.more Pool.w2 (by simp) (Wri.more Pool.w2 (Nat.le_refl _) (Wri.more Pool.w2 (Nat.le_refl _) Wri.n2 (fits_i64 (.inr (.inl rfl)))) (fits_i64 (.inr (.inl rfl)))) (fits_i64 (.inr (.inl rfl)))
theorem noteU4 {n : Nat} (hn : n < 4294967296) : noteU t 4 [(n : Int)] = (t.1 ++ enc 4 (n : Int), t.2) := by
  have hw : wide ((4 : Nat) : Int) = true := by decide
  have hg : good 4 false [(n : Int)] = true := by
    have := good_cons (n := (n : Int)) (zs := []) hw
    have g0 : good 4 false [] = true := by rfl
    have hf : fits ((4 : Nat) : Int) (n : Int) false = true := by
      unfold fits
      simp
      omega
    show good ((4 : Nat) : Int) false _ = true
    rw [this, hf]
    exact g0
  unfold noteU allBs
  have hg' : good ((4 : Nat) : Int) false [(n : Int)] = true := hg
  rw [hg']
  simp
theorem noteU_good {k : Nat} {zs : List Int} (h : good k false zs = true) : noteU t k zs = (allBs t.1 k false zs, t.2) := by
  unfold noteU
  rw [h]
  simp
theorem kindNo_good {k : Int} (h0 : 0 ≤ k) (h5 : k < 5) : good ((1 : Nat) : Int) false [kindNo k] = true := by
  have : k = 0 ∨ k = 1 ∨ k = 2 ∨ k = 3 ∨ k = 4 := by omega
  rcases this with rfl | rfl | rfl | rfl | rfl <;> decide
theorem Wri.nil {x' : List UInt8} (e : x' = []) : Wri nilT 0 t x' t := by
  refine ⟨Nat.le_refl _, ?_⟩
  cases ht : t.2 with
  | true => exact .inl ⟨rfl, .inl rfl⟩
  | false => exact .inr ⟨rfl, rfl, e, by show t.1 = t.1 ++ []; rw [List.append_nil]⟩
theorem Wri.blob {bs : List UInt8} (h : bs.length < 4294967296) : Wri blobT (4 + bs.length) t bs (t.1 ++ (enc 4 (bs.length : Int) ++ bs), t.2) := by
  refine ⟨by simp [enc_length], ?_⟩
  cases ht : t.2 with
  | true => exact .inl ⟨rfl, .inl rfl⟩
  | false =>
    refine .inr ⟨rfl, rfl, ⟨?_, ?_⟩, rfl⟩
    · unfold fits
      simp
      omega
    · unfold i64
      omega
theorem Wri.part {tp : WT} (h : Wri T c ([], false) x tp) : Wri (partT T) (4 + c) t x (t.1 ++ (enc 4 (tp.1.length : Int) ++ tp.1), t.2 || tp.2) := by
  obtain ⟨h1, h2⟩ := h
  refine ⟨by simp [enc_length] at *; omega, ?_⟩
  rcases h2 with ⟨a, b⟩ | ⟨a, b, o, s⟩
  · refine .inl ⟨by dsimp only; rw [a, Bool.or_true], .inr fun o => ?_⟩
    rcases b with b | b
    · cases b
    · exact b o
  · rw [List.nil_append] at s
    cases ht : t.2 with
    | true => exact .inl ⟨rfl, .inl rfl⟩
    | false =>
      refine .inr ⟨by dsimp only; rw [a]; rfl, rfl, o, ?_⟩
      rw [s]
      rfl
/-! ### Texts' numbers -/
/-- What the search says. -/
def findI (P : Ent → List UInt8 → Bool) (l : List Ent) (s : List UInt8) : Int := if idx P l s < l.length then (idx P l s : Int) else -1
def atN (P : Ent → List UInt8 → Bool) (l : List Ent) (s : List UInt8) : Int := if findI P l s < 0 then 0 else findI P l s
theorem find_pos {P : Ent → List UInt8 → Bool} {l : List Ent} {s : List UInt8} : 0 < findI P l s ↔ 0 < idx P l s ∧ idx P l s < l.length := by
  unfold findI
  split <;> omega
theorem Wri.ref {P : Ent → List UInt8 → Bool} {l : List Ent} {hP : ∀ e s t, P e s = true → P e t = true → s = t} {s : List UInt8} {n : Int} {b : Bool} (hb : b = (t.2 || !decide (0 < findI P l s))) (hn : n = atN P l s) : Wri (refT P l hP) 2 t s (noteU (t.1, b) 2 [n]) := by
  subst hn
  refine Wri.by (p := decide (0 < findI P l s)) ?_ hb (by rw [decide_eq_true_eq]; exact find_pos)
  by_cases h : idx P l s < l.length
  · have e : atN P l s = (idx P l s : Int) := by unfold atN findI; rw [if_pos h, if_neg (by omega)]
    rw [e]
    exact Wri.n2
  · have hn : b = true := by
      rw [hb]
      have : ¬ 0 < findI P l s := by unfold findI; rw [if_neg h]; decide
      rw [decide_eq_false this]
      simp
    refine ⟨Nat.le_trans (noteU_le _ _ _) (by simp), .inl ⟨?_, .inl hn⟩⟩
    unfold noteU
    dsimp only
    rw [hn]
    rfl
/-! ### Lists -/
def csum {α : Type} (f : α → Nat) (l : List α) : Nat := (l.map f).sum
theorem csum_snoc (f : α → Nat) (l : List α) (x : α) : csum f (l ++ [x]) = csum f l + f x := by simp [csum]
theorem csum_cons (f : α → Nat) (l : List α) (x : α) : csum f (x :: l) = f x + csum f l := by simp [csum]
theorem csum_le (f : α → Nat) : ∀ (l : List α) (i : Nat), csum f (l.take i) ≤ csum f l
  | [], i => by simp
  | x :: l, 0 => by simp [csum]
  | x :: l, i + 1 => by
    have := csum_le f l i
    simp only [csum, List.take_succ_cons, List.map_cons, List.sum_cons] at this ⊢
    omega
def WLst (T : Tell α) (bound : Nat) (f : α → Nat) (t : WT) (xs : List α) (i : Nat) (t' : WT) : Prop :=
  t'.1.length ≤ t.1.length + 2 + csum f (xs.take i) ∧ ((t'.2 = true ∧ (t.2 = true ∨ ¬ (xs.length ≤ bound ∧ ∀ x ∈ xs, T.ok x))) ∨
    (t'.2 = false ∧ t.2 = false ∧ xs.length ≤ bound ∧ (∀ x ∈ xs.take i, T.ok x) ∧ t'.1 = t.1 ++ (enc 2 (xs.length : Int) ++ (xs.take i).flatMap T.enc)))
theorem WLst.start {f : α → Nat} {xs : List α} {bound : Nat} (hb : bound < 65536) (h : Wri Class.n2 2 (t.1, t.2 || !decide (xs.length ≤ bound)) (xs.length : Int) t1) : WLst T bound f t xs 0 t1 := by
  refine ⟨by simpa [csum] using h.1, ?_⟩
  rcases h.2 with ⟨a, b⟩ | ⟨a, b, o, s⟩
  · refine .inl ⟨a, ?_⟩
    rcases b with b | b
    · rw [Bool.or_eq_true] at b
      rcases b with b | b
      · exact .inl b
      · refine .inr fun o => ?_
        rw [decide_eq_true o.1] at b
        cases b
    · exact .inr fun o => b (n2_ok (by omega) (by omega))
  · rw [Bool.or_eq_false_iff] at b
    refine .inr ⟨a, b.1, ?_, by simp, ?_⟩
    · have := b.2
      rw [Bool.not_eq_false', decide_eq_true_eq] at this
      exact this
    · rw [s]
      simp [Fmt.num, tF, Class.n2]
theorem WLst.step {f : α → Nat} {xs : List α} {i bound : Nat} (hi : i < xs.length) (h : WLst T bound f t xs i t1) (k : Wri T (f xs[i]) t1 xs[i] t2) : WLst T bound f t xs (i + 1) t2 := by
  have et : xs.take (i + 1) = xs.take i ++ [xs[i]] := List.take_succ_eq_append_getElem hi
  obtain ⟨h1, h2⟩ := h
  obtain ⟨k1, k2⟩ := k
  unfold WLst
  rw [et, csum_snoc]
  refine ⟨by omega, ?_⟩
  rcases k2 with ⟨a, b⟩ | ⟨a, b, e, s⟩
  · refine .inl ⟨a, ?_⟩
    rcases h2 with ⟨p, q⟩ | ⟨p, q, _⟩
    · exact q
    · rcases b with b | b
      · rw [p] at b; cases b
      · exact .inr fun o => b (o.2 _ (List.getElem_mem hi))
  · rcases h2 with ⟨p, q⟩ | ⟨p, q, r, u, v⟩
    · rw [b] at p; cases p
    · refine .inr ⟨a, q, r, fun y hy => ?_, ?_⟩
      · rcases List.mem_append.1 hy with hy | hy
        · exact u y hy
        · rw [List.mem_singleton.1 hy]; exact e
      · rw [s, v, List.flatMap_append]
        simp [List.append_assoc]
theorem WLst.done {f : α → Nat} {xs : List α} {bound : Nat} {hb : bound < 65536} (h : WLst T bound f t xs xs.length t1) : Wri (lstT T bound hb) (2 + csum f xs) t xs t1 := by
  unfold WLst at h
  rw [List.take_length] at h
  exact ⟨by omega, h.2.imp id fun ⟨a, b, c, d, e⟩ => ⟨a, b, ⟨c, d⟩, e⟩⟩
/-- Left early, being bad. -/
theorem WLst.stop {f : α → Nat} {xs : List α} {i bound : Nat} {hb : bound < 65536} (h : WLst T bound f t xs i t1) (hbad : t1.2 = true) : Wri (lstT T bound hb) (2 + csum f xs) t xs t1 := by
  obtain ⟨h1, h2⟩ := h
  have := csum_le f xs i
  refine ⟨by omega, ?_⟩
  rcases h2 with h2 | ⟨p, _⟩
  · exact .inl h2
  · rw [p] at hbad; cases hbad
end
theorem csum_const {α : Type} {f : α → Nat} {n : Nat} (h : ∀ x, f x = n) : ∀ l : List α, csum f l = n * l.length
  | [] => rfl
  | a :: r => by
    rw [csum_cons, csum_const h r, h a, List.length_cons, Nat.mul_add]
    omega
def cTy (_ : Ty) : Nat := 3
def cHnd (_ : Hnd) : Nat := 8
def cFld (_ : Fld) : Nat := 8
def cMp (m : Mp) : Nat := 7 + 3 * m.locals.length + 3 * m.stack.length
def cCod (c : Cod) : Nat := 4 + (4 + c.bytes.length) + (2 + csum cHnd c.hands) + (10 + csum cMp c.maps)
def cMth (m : Mth) : Nat := 14 + cCod m.code
/-- Maps that are being written. -/
def WMs (l : List Ent) (t : WT) (xs : List Mp) (i : Nat) (last : Int) (t' : WT) : Prop :=
  t'.1.length ≤ t.1.length + 2 + csum cMp (xs.take i) ∧ ((t'.2 = true ∧ (t.2 = true ∨ ¬ (mapsT l).ok xs)) ∨
    (t'.2 = false ∧ t.2 = false ∧ xs.length ≤ 256 ∧ (mapsO l (-1) xs ↔ mapsO l last (xs.drop i)) ∧ t'.1 ++ mapsE l last (xs.drop i) = t.1 ++ (enc 2 (xs.length : Int) ++ mapsE l (-1) xs)))
theorem WMs.start {l : List Ent} {t t1 : WT} {xs : List Mp} (h : Wri n2 2 (t.1, t.2 || !decide (xs.length ≤ 256)) (xs.length : Int) t1) : WMs l t xs 0 (-1) t1 := by
  refine ⟨by simpa [csum] using h.1, ?_⟩
  rcases h.2 with ⟨a, b⟩ | ⟨a, b, o, s⟩
  · refine .inl ⟨a, ?_⟩
    rcases b with b | b
    · rw [Bool.or_eq_true] at b
      rcases b with b | b
      · exact .inl b
      · refine .inr fun o => ?_
        rw [decide_eq_true o.1] at b
        cases b
    · refine .inr fun o => b ?_
      have := o.1
      exact n2_ok (by omega) (by omega)
  · rw [Bool.or_eq_false_iff] at b
    refine .inr ⟨a, b.1, ?_, Iff.rfl, ?_⟩
    · have := b.2
      rw [Bool.not_eq_false', decide_eq_true_eq] at this
      exact this
    · rw [s, List.append_assoc]
      rfl
theorem WMs.step {l : List Ent} {t t1 t2 : WT} {xs : List Mp} {i : Nat} {last : Int} (hi : i < xs.length) (h : WMs l t xs i last t1) (k : Wri (mapT l last) (cMp xs[i]) t1 xs[i] t2) : WMs l t xs (i + 1) xs[i].at_ t2 := by
  have et : xs.take (i + 1) = xs.take i ++ [xs[i]] := List.take_succ_eq_append_getElem hi
  have ed : xs.drop i = xs[i] :: xs.drop (i + 1) := List.drop_eq_getElem_cons hi
  obtain ⟨h1, h2⟩ := h
  obtain ⟨k1, k2⟩ := k
  unfold WMs
  rw [et, csum_snoc]
  refine ⟨by omega, ?_⟩
  rcases k2 with ⟨a, b⟩ | ⟨a, b, e, s⟩
  · refine .inl ⟨a, ?_⟩
    rcases h2 with ⟨p, q⟩ | ⟨p, q, r, u, _⟩
    · exact q
    · rcases b with b | b
      · rw [p] at b; cases b
      · refine .inr fun o => b ?_
        have := u.1 o.2
        rw [ed] at this
        exact this.1
  · rcases h2 with ⟨p, q⟩ | ⟨p, q, r, u, v⟩
    · rw [b] at p; cases p
    · rw [ed] at u v
      refine .inr ⟨a, q, r, u.trans ⟨fun o => o.2, fun o => ⟨e, o⟩⟩, ?_⟩
      rw [s, ← v, List.append_assoc]
      rfl
theorem WMs.done {l : List Ent} {t t1 : WT} {xs : List Mp} {last : Int} (h : WMs l t xs xs.length last t1) : Wri (mapsT l) (2 + csum cMp xs) t xs t1 := by
  unfold WMs at h
  rw [List.take_length, List.drop_length] at h
  refine ⟨by omega, h.2.imp id fun ⟨a, b, c, d, e⟩ => ⟨a, b, ⟨c, d.2 trivial⟩, ?_⟩⟩
  have e2 : t1.1 ++ mapsE l last [] = t1.1 := List.append_nil _
  rw [e2] at e
  exact e
theorem WMs.stop {l : List Ent} {t t1 : WT} {xs : List Mp} {last : Int} {i : Nat} (h : WMs l t xs i last t1) (hbad : t1.2 = true) : Wri (mapsT l) (2 + csum cMp xs) t xs t1 := by
  obtain ⟨h1, h2⟩ := h
  have := csum_le cMp xs i
  refine ⟨by omega, ?_⟩
  rcases h2 with h2 | ⟨p, _⟩
  · exact .inl h2
  · rw [p] at hbad; cases hbad
theorem Wri.opt {l : List Ent} {t t1 t2 t3 : WT} {xs : List Mp} {c : Nat} (h1 : Wri Class.n2 2 t 1 t1) (h2 : Wri (utfT l) 2 t1 tableS t2) (h3 : Wri (partT (mapsT l)) c t2 xs t3) (hne : xs ≠ []) : Wri (optT l) (4 + c) t xs t3 := by
  have h := h1.seq (h2.seq h3)
  refine ⟨by have := h.1; omega, ?_⟩
  rcases h.2 with ⟨a, b⟩ | ⟨a, b, o, s⟩
  · exact .inl ⟨a, b.imp id fun b o => b ⟨(n2_ok (n := 1) (by decide) (by decide)), (o.resolve_left hne).1, (o.resolve_left hne).2⟩⟩
  · refine .inr ⟨a, b, .inr ⟨o.2.1, o.2.2⟩, ?_⟩
    rw [s]
    show _ = t.1 ++ (if xs = [] then enc 2 0 else _)
    rw [if_neg hne]
    rfl
/-! ### Readings -/
abbrev RSt := Nat × Bool
/-- A reading that is right where what is told is there. -/
def Rd {α : Type} (T : Tell α) (bs : List UInt8) (s : RSt) (x : α) (s' : RSt) : Prop :=
  s.1 ≤ s'.1 ∧ s'.1 ≤ bs.length ∧ (s.2 = false → ∀ y q, T.ok y → bs.drop s.1 = T.enc y ++ q → x = y ∧ s'.2 = false ∧ bs.drop s'.1 = q)
section
variable {α β : Type} {T : Tell α} {U : Tell β} {bs : List UInt8} {s s1 s2 : RSt} {x : α} {y : β}
theorem Rd.dseq {U : α → Tell β} (h : Rd T bs s x s1) (k : Rd (U x) bs s1 y s2) : Rd (dseqT T U) bs s (x, y) s2 := by
  refine ⟨Nat.le_trans h.1 k.1, k.2.1, ?_⟩
  rintro hs ⟨a, b⟩ q ⟨oa, ob⟩ e
  have e : bs.drop s.1 = T.enc a ++ ((U a).enc b ++ q) := by rw [e]; exact List.append_assoc ..
  obtain ⟨h1, h2, h3⟩ := h.2.2 hs a _ oa e
  subst h1
  obtain ⟨k1, k2, k3⟩ := k.2.2 h2 b q ob h3
  exact ⟨by rw [k1], k2, k3⟩
theorem Rd.seq (h : Rd T bs s x s1) (k : Rd U bs s1 y s2) : Rd (seqT T U) bs s (x, y) s2 := Rd.dseq h k
theorem Rd.to {f : β → α} {P : β → Prop} {hf : ∀ x y, P x → P y → f x = f y → x = y} (g : α → β) (hg : ∀ y, P y → T.ok (f y) → g (f y) = y) (h : Rd T bs s x s1) : Rd (byT T f P hf) bs s (g x) s1 := by
  refine ⟨h.1, h.2.1, ?_⟩
  rintro hs b q ⟨pb, ob⟩ e
  obtain ⟨h1, h2, h3⟩ := h.2.2 hs (f b) q ob e
  rw [h1]
  exact ⟨hg b pb ob, h2, h3⟩
/-- Nothing is said of what is bad. -/
theorem Rd.bad (h : s.2 = true) (hs : s.1 ≤ bs.length) (x : α) : Rd T bs s x s := ⟨Nat.le_refl _, hs, fun h0 => by rw [h] at h0; cases h0⟩
theorem Rd.num {k : Nat} (hk : wide (k : Int) = true) (i : Nat) (hi : i ≤ bs.length) :
    Rd (tF (Fmt.num k false hk)) bs (i, false) (Word.get false bs i k).1 ((Word.get false bs i k).2.2, !decide ((Word.get false bs i k).2.1 = 0)) := by
  rcases get_num k false hk bs i hi with ⟨v, h1, h2, h3⟩ | ⟨h1, e, he, h2⟩
  · rw [h2]
    refine ⟨Nat.le_add_right _ _, h3, fun _ y q ho e => ?_⟩
    have := (Fmt.num k false hk).fwd y q ho
    rw [show (Fmt.num k false hk).enc y ++ q = bs.drop i from e.symm] at this
    change numP k false _ = _ at this
    rw [h1] at this
    simp only [Option.some.injEq, Prod.mk.injEq] at this
    exact ⟨this.1, rfl, this.2⟩
  · rw [h2]
    refine ⟨Nat.le_refl _, hi, fun _ y q ho e => ?_⟩
    have := (Fmt.num k false hk).fwd y q ho
    rw [show (Fmt.num k false hk).enc y ++ q = bs.drop i from e.symm] at this
    change numP k false _ = _ at this
    rw [h1] at this
    cases this
theorem Rd.mark {b : Bool} (h : Rd T bs s x s1) (hb : T.ok x → b = s1.2) : Rd T bs s x (s1.1, b) := by
  refine ⟨h.1, h.2.1, fun hs y q ho e => ?_⟩
  obtain ⟨h1, h2, h3⟩ := h.2.2 hs y q ho e
  exact ⟨h1, by rw [hb (by rw [h1]; exact ho)]; exact h2, h3⟩
theorem Rd.nil {bs : List UInt8} {s : RSt} (hs : s.1 ≤ bs.length) : Rd nilT bs s [] s := by
  refine ⟨Nat.le_refl _, hs, fun h y q ho e => ⟨(show y = [] from ho).symm, h, ?_⟩⟩
  exact e
theorem Rd.by_ {f : β → α} {hf : ∀ x y : β, True → True → f x = f y → x = y} {y : β} (h : Rd T bs s (f y) s1) : Rd (byT T f (fun _ => True) hf) bs s y s1 := by
  refine ⟨h.1, h.2.1, fun hs z q ho e => ?_⟩
  obtain ⟨h1, h2, h3⟩ := h.2.2 hs (f z) q ho.2 e
  exact ⟨hf _ _ trivial trivial h1, h2, h3⟩
theorem Rd.byP {f : β → α} {P : β → Prop} {hf : ∀ x y, P x → P y → f x = f y → x = y} {y : β} (h : Rd T bs s (f y) s1) (hi : ∀ z, f y = f z → y = z) : Rd (byT T f P hf) bs s y s1 := by
  refine ⟨h.1, h.2.1, fun hs z q ho e => ?_⟩
  obtain ⟨h1, h2, h3⟩ := h.2.2 hs (f z) q ho.2 e
  exact ⟨hi z h1, h2, h3⟩
/-- A list that is being read. -/
def LRd (T : Tell α) (bound : Nat) (bs : List UInt8) (s : RSt) (acc : List α) (m : Nat) (s' : RSt) : Prop :=
  s.1 ≤ s'.1 ∧ s'.1 ≤ bs.length ∧ (s.2 = false → ∀ ys q, ys.length ≤ bound → (∀ y ∈ ys, T.ok y) → bs.drop s.1 = (enc 2 (ys.length : Int) ++ ys.flatMap T.enc) ++ q → ∃ r, ys = acc ++ r ∧ m = r.length ∧ s'.2 = false ∧ bs.drop s'.1 = r.flatMap T.enc ++ q)
theorem LRd.start {n : Int} {bound : Nat} (hb : bound < 65536) (h : Rd n2 bs s n s1) : LRd T bound bs s [] n.toNat s1 := by
  refine ⟨h.1, h.2.1, fun hs ys q hl ho e => ?_⟩
  rw [List.append_assoc] at e
  obtain ⟨h1, h2, h3⟩ := h.2.2 hs (ys.length : Int) _ (n2_ok (by omega) (by omega)) e
  exact ⟨ys, rfl, by rw [h1]; rfl, h2, h3⟩
theorem LRd.step {acc : List α} {m bound : Nat} (h : LRd T bound bs s acc (m + 1) s1) (k : Rd T bs s1 x s2) : LRd T bound bs s (acc ++ [x]) m s2 := by
  refine ⟨Nat.le_trans h.1 k.1, k.2.1, fun hs ys q hl ho e => ?_⟩
  obtain ⟨r, h1, h2, h3, h4⟩ := h.2.2 hs ys q hl ho e
  match r, h2 with
  | z :: r, h2 =>
    rw [List.flatMap_cons, List.append_assoc] at h4
    obtain ⟨k1, k2, k3⟩ := k.2.2 h3 z _ (ho z (by rw [h1]; simp)) h4
    exact ⟨r, by rw [h1, k1]; simp, by simpa using h2, k2, k3⟩
theorem LRd.done {acc : List α} {m bound : Nat} {hb : bound < 65536} (h : LRd T bound bs s acc m s1) (hm : s1.2 = false → m = 0) : Rd (lstT T bound hb) bs s acc s1 := by
  refine ⟨h.1, h.2.1, fun hs ys q ho e => ?_⟩
  obtain ⟨r, h1, h2, h3, h4⟩ := h.2.2 hs ys q ho.1 ho.2 e
  rw [hm h3] at h2
  obtain rfl := List.length_eq_zero_iff.1 h2.symm
  rw [List.append_nil] at h1
  exact ⟨h1.symm, h3, by simpa using h4⟩
/-- A reading goes on, or ends; what is bad stays. -/
def On (s s' : RSt) : Prop := s.1 ≤ s'.1 ∧ (s.1 < s'.1 ∨ s'.2 = true) ∧ (s.2 = true → s'.2 = true)
theorem On.trans (a : On s s1) (b : On s1 s2) : On s s2 := by
  refine ⟨Nat.le_trans a.1 b.1, ?_, fun h => b.2.2 (a.2.2 h)⟩
  rcases a.2.1 with h | h
  · exact .inl (Nat.lt_of_lt_of_le h b.1)
  · exact .inr (b.2.2 h)
theorem On.or (a : On s s1) (b : Bool) : On s (s1.1, s1.2 || b) := by
  refine ⟨a.1, ?_, fun h => by show (s1.2 || b) = true; rw [a.2.2 h]; rfl⟩
  rcases a.2.1 with h | h
  · exact .inl h
  · exact .inr (by show (s1.2 || b) = true; rw [h]; rfl)
/-- How much a list that is being read costs: of each member's place, and of the last one, that was bad. -/
def LCo (f : α → Nat) (K D : Nat) (s : RSt) (acc : List α) (s' : RSt) : Prop := csum f acc ≤ (K + D) * (s'.1 - s.1) + (if s'.2 = true then D else 0) ∧ acc.length ≤ (s'.1 - s.1) + (if s'.2 = true then 1 else 0)
theorem LCo.start {f : α → Nat} {K D : Nat} : LCo f K D s [] s1 := ⟨by simp [csum], by simp⟩
theorem LCo.step {f : α → Nat} {K D : Nat} {acc : List α} (h : LCo f K D s acc s1) (h0 : s.1 ≤ s1.1) (hb : s1.2 = false) (hx : f x ≤ K * (s2.1 - s1.1) + D) (hp : On s1 s2) : LCo f K D s (acc ++ [x]) s2 := by
  have h1 := hp.1
  replace hp := hp.2.1
  obtain ⟨a, b⟩ := h
  rw [hb, if_neg (by decide)] at a b
  have e : s2.1 - s.1 = (s1.1 - s.1) + (s2.1 - s1.1) := by omega
  unfold LCo
  rw [csum_snoc, e, Nat.mul_add, List.length_append, Nat.add_mul K D (s2.1 - s1.1)]
  cases h2 : s2.2 with
  | true =>
    rw [if_pos rfl, if_pos rfl]
    exact ⟨by omega, by simp; omega⟩
  | false =>
    rw [if_neg (by decide), if_neg (by decide)]
    rw [h2] at hp
    have hp : s1.1 < s2.1 := hp.resolve_right (by decide)
    have : D ≤ D * (s2.1 - s1.1) := Nat.le_mul_of_pos_right D (by omega)
    exact ⟨by omega, by simp; omega⟩
theorem LCo.le {f : α → Nat} {K D : Nat} {acc : List α} (h : LCo f K D s acc s1) : csum f acc ≤ (K + D) * (s1.1 - s.1) + D ∧ acc.length ≤ (s1.1 - s.1) + 1 := by
  obtain ⟨a, b⟩ := h
  refine ⟨?_, ?_⟩
  · split at a <;> omega
  · split at b <;> omega
/-- Maps that are being read. -/
def MRd (l : List Ent) (bs : List UInt8) (s : RSt) (acc : List Mp) (m : Nat) (last : Int) (s' : RSt) : Prop :=
  s.1 ≤ s'.1 ∧ s'.1 ≤ bs.length ∧ (s.2 = false → ∀ ys q, (mapsT l).ok ys → bs.drop s.1 = (mapsT l).enc ys ++ q → ∃ r, ys = acc ++ r ∧ m = r.length ∧ s'.2 = false ∧ mapsO l last r ∧ bs.drop s'.1 = mapsE l last r ++ q)
theorem MRd.start {l : List Ent} {n : Int} (h : Rd n2 bs s n s1) : MRd l bs s [] n.toNat (-1) s1 := by
  refine ⟨h.1, h.2.1, fun hs ys q ho e => ?_⟩
  have e : bs.drop s.1 = enc 2 (ys.length : Int) ++ (mapsE l (-1) ys ++ q) := by rw [e]; exact List.append_assoc ..
  have hl := ho.1
  obtain ⟨h1, h2, h3⟩ := h.2.2 hs (ys.length : Int) _ (n2_ok (by omega) (by omega)) e
  exact ⟨ys, rfl, by rw [h1]; rfl, h2, ho.2, h3⟩
theorem MRd.step {l : List Ent} {acc : List Mp} {m : Nat} {last : Int} {x : Mp} (h : MRd l bs s acc (m + 1) last s1) (k : Rd (mapT l last) bs s1 x s2) : MRd l bs s (acc ++ [x]) m x.at_ s2 := by
  refine ⟨Nat.le_trans h.1 k.1, k.2.1, fun hs ys q ho e => ?_⟩
  obtain ⟨r, h1, h2, h3, h5, h4⟩ := h.2.2 hs ys q ho e
  match r, h2 with
  | z :: r, h2 =>
    have h4 : bs.drop s1.1 = (mapT l last).enc z ++ (mapsE l z.at_ r ++ q) := by rw [h4]; exact List.append_assoc ..
    obtain ⟨k1, k2, k3⟩ := k.2.2 h3 z _ h5.1 h4
    subst k1
    exact ⟨r, by rw [h1]; simp, by simpa using h2, k2, h5.2, k3⟩
theorem MRd.done {l : List Ent} {acc : List Mp} {m : Nat} {last : Int} (h : MRd l bs s acc m last s1) (hm : s1.2 = false → m = 0) : Rd (mapsT l) bs s acc s1 := by
  refine ⟨h.1, h.2.1, fun hs ys q ho e => ?_⟩
  obtain ⟨r, h1, h2, h3, _, h4⟩ := h.2.2 hs ys q ho e
  rw [hm h3] at h2
  obtain rfl := List.length_eq_zero_iff.1 h2.symm
  rw [List.append_nil] at h1
  exact ⟨h1.symm, h3, h4⟩
theorem Rd.ref {P : Ent → List UInt8 → Bool} {l : List Ent} {hP : ∀ e s t, P e s = true → P e t = true → s = t} {n : Int} {z : List UInt8} {b : Bool} (h : Rd n2 bs s n s1) (hz : ∀ t, 0 ≤ n → n.toNat < l.length → P (at_ l n) t = true → z = t ∧ b = s1.2) : Rd (refT P l hP) bs s z (s1.1, b) := by
  refine ⟨h.1, h.2.1, ?_⟩
  rintro hs y q ⟨hy, ho⟩ e
  obtain ⟨h1, h2, h3⟩ := h.2.2 hs _ q ho e
  dsimp only at h1
  have hi := hy.2
  have := idx_at hi
  have h4 := hz y (by omega) (by omega) (by rw [h1, Pool.at_lt hi]; exact this)
  exact ⟨h4.1, by rw [h4.2]; exact h2, h3⟩
/-- A reading that is right where what is told is there, and of a kind. -/
def RdS (T : Tell α) (Q : α → Prop) (bs : List UInt8) (s : RSt) (x : α) (s' : RSt) : Prop :=
  s.1 ≤ s'.1 ∧ s'.1 ≤ bs.length ∧ (s.2 = false → ∀ y q, Q y → T.ok y → bs.drop s.1 = T.enc y ++ q → x = y ∧ s'.2 = false ∧ bs.drop s'.1 = q)
theorem Rd.S (h : Rd T bs s x s1) (Q : α → Prop) : RdS T Q bs s x s1 := ⟨h.1, h.2.1, fun hs y q _ => h.2.2 hs y q⟩
theorem RdS.seq {Q : α → Prop} {Q' : β → Prop} (h : RdS T Q bs s x s1) (k : RdS U Q' bs s1 y s2) : RdS (seqT T U) (fun p => Q p.1 ∧ Q' p.2) bs s (x, y) s2 := by
  refine ⟨Nat.le_trans h.1 k.1, k.2.1, ?_⟩
  rintro hs ⟨a, b⟩ q ⟨qa, qb⟩ ⟨oa, ob⟩ e
  have e : bs.drop s.1 = T.enc a ++ (U.enc b ++ q) := by rw [e]; exact List.append_assoc ..
  obtain ⟨h1, h2, h3⟩ := h.2.2 hs a _ qa oa e
  obtain ⟨k1, k2, k3⟩ := k.2.2 h2 b q qb ob h3
  exact ⟨by rw [h1, k1], k2, k3⟩
theorem RdS.num {n m : Int} (h : Rd n2 bs s n s1) : RdS n2 (fun z => z = m) bs s m s1 := ⟨h.1, h.2.1, fun hs y q hy ho e => by
  obtain ⟨_, h2, h3⟩ := h.2.2 hs y q ho e
  exact ⟨hy.symm, h2, h3⟩⟩
theorem RdS.num4 {n m : Int} (h : Rd n4 bs s n s1) : RdS n4 (fun z => z = m) bs s m s1 := ⟨h.1, h.2.1, fun hs y q hy ho e => by
  obtain ⟨_, h2, h3⟩ := h.2.2 hs y q ho e
  exact ⟨hy.symm, h2, h3⟩⟩
theorem RdS.num1 {n m : Int} (h : Rd n1 bs s n s1) : RdS n1 (fun z => z = m) bs s m s1 := ⟨h.1, h.2.1, fun hs y q hy ho e => by
  obtain ⟨_, h2, h3⟩ := h.2.2 hs y q ho e
  exact ⟨hy.symm, h2, h3⟩⟩
theorem RdS.utf {l : List Ent} {n : Int} {z : List UInt8} (h : Rd n2 bs s n s1) : RdS (utfT l) (fun x => x = z) bs s z s1 := ⟨h.1, h.2.1, fun hs y q hy ho e => by
  obtain ⟨_, h2, h3⟩ := h.2.2 hs _ q ho.2 e
  exact ⟨hy.symm, h2, h3⟩⟩
theorem RdS.byP {f : β → α} {P : β → Prop} {hf : ∀ x y, P x → P y → f x = f y → x = y} {Q : α → Prop} {y : β} (h : RdS T Q bs s (f y) s1) (hQ : ∀ z, P z → Q (f z)) (hi : ∀ z, f y = f z → y = z) : Rd (byT T f P hf) bs s y s1 := by
  refine ⟨h.1, h.2.1, fun hs z q ho e => ?_⟩
  obtain ⟨h1, h2, h3⟩ := h.2.2 hs (f z) q (hQ z ho.1) ho.2 e
  exact ⟨hi z h1, h2, h3⟩
theorem Rd.part {n : Int} (h : Rd n4 bs s n s1) (k : Rd T bs s1 x s2) (hb : bs.length ≤ 1000000) : Rd (partT T) bs s x s2 := by
  refine ⟨Nat.le_trans h.1 k.1, k.2.1, fun hs y q ho e => ?_⟩
  have e : bs.drop s.1 = enc 4 ((T.enc y).length : Int) ++ (T.enc y ++ q) := by rw [e]; exact List.append_assoc ..
  have hl := congrArg List.length e
  rw [List.length_drop, List.length_append, List.length_append, enc_length] at hl
  have ok4 : n4.ok ((T.enc y).length : Int) := by
    refine ⟨?_, ?_⟩
    · unfold fits
      simp
      omega
    · unfold i64
      omega
  obtain ⟨_, h2, h3⟩ := h.2.2 hs _ _ ok4 e
  exact k.2.2 h2 y q ho h3
theorem n2_0 : n2.ok 0 := n2_ok (by decide) (by decide)
theorem n2_1 : n2.ok 1 := n2_ok (by decide) (by decide)
theorem Rd.opt0 {l : List Ent} {n : Int} (h : Rd n2 bs s n s1) (h0 : n = 0) : Rd (optT l) bs s [] s1 := by
  refine ⟨h.1, h.2.1, fun hs y q ho e => ?_⟩
  by_cases hy : y = []
  · have e : bs.drop s.1 = enc 2 0 ++ q := by
      rw [e]
      show (if y = [] then enc 2 0 else _) ++ q = _
      rw [if_pos hy]
    obtain ⟨_, h2, h3⟩ := h.2.2 hs 0 q n2_0 e
    exact ⟨hy.symm, h2, h3⟩
  · have e : bs.drop s.1 = enc 2 1 ++ (((utfT l).enc tableS ++ (partT (mapsT l)).enc y) ++ q) := by
      rw [e]
      show (if y = [] then enc 2 0 else _) ++ q = _
      rw [if_neg hy, List.append_assoc]
    obtain ⟨h1, _⟩ := h.2.2 hs 1 _ n2_1 e
    omega
theorem Rd.opt1 {l : List Ent} {n m k : Int} {s3 s4 : RSt} {xs : List Mp} (h : Rd n2 bs s n s1) (h0 : n ≠ 0) (h1 : Rd n2 bs s1 m s2) (h2 : Rd n4 bs s2 k s3) (h3 : Rd (mapsT l) bs s3 xs s4) (hb : bs.length ≤ 1000000) : Rd (optT l) bs s xs s4 := by
  have r := h1.1
  have r2 := h2.1
  have r3 := h3.1
  have r0 := h.1
  refine ⟨by omega, h3.2.1, fun hs y q ho e => ?_⟩
  by_cases hy : y = []
  · have e : bs.drop s.1 = enc 2 0 ++ q := by
      rw [e]
      show (if y = [] then enc 2 0 else _) ++ q = _
      rw [if_pos hy]
    obtain ⟨h1, _⟩ := h.2.2 hs 0 q n2_0 e
    exact absurd h1 h0
  · have e : bs.drop s.1 = enc 2 1 ++ ((utfT l).enc tableS ++ ((partT (mapsT l)).enc y ++ q)) := by
      rw [e]
      show (if y = [] then enc 2 0 else _) ++ q = _
      rw [if_neg hy, List.append_assoc, List.append_assoc]
    obtain ⟨_, a2, a3⟩ := h.2.2 hs 1 _ n2_1 e
    obtain ⟨o1, o2⟩ := ho.resolve_left hy
    obtain ⟨_, b2, b3⟩ := h1.2.2 a2 _ _ o1.2 a3
    exact (h2.part h3 hb).2.2 b2 y q o2 b3
theorem Rd.sup0 {l : List Ent} {n : Int} (h : Rd n2 bs s n s1) (h0 : n = 0) : Rd (supT l) bs s [] s1 := by
  refine ⟨h.1, h.2.1, fun hs y q ho e => ?_⟩
  by_cases hy : y = []
  · have e : bs.drop s.1 = enc 2 0 ++ q := by
      rw [e]
      show (if y = [] then enc 2 0 else _) ++ q = _
      rw [if_pos hy]
    obtain ⟨_, h2, h3⟩ := h.2.2 hs 0 q n2_0 e
    exact ⟨hy.symm, h2, h3⟩
  · have e : bs.drop s.1 = (clsT l).enc y ++ q := by
      rw [e]
      show (if y = [] then enc 2 0 else _) ++ q = _
      rw [if_neg hy]
    have o := ho.resolve_left hy
    obtain ⟨h1, _⟩ := h.2.2 hs _ _ o.2 e
    have := o.1.1
    dsimp only at h1
    omega
theorem Rd.sup1 {l : List Ent} {n : Int} {z : List UInt8} (h : Rd n2 bs s n s1) (h0 : n ≠ 0) (k : Rd (clsT l) bs s z s2) : Rd (supT l) bs s z s2 := by
  refine ⟨k.1, k.2.1, fun hs y q ho e => ?_⟩
  by_cases hy : y = []
  · have e : bs.drop s.1 = enc 2 0 ++ q := by
      rw [e]
      show (if y = [] then enc 2 0 else _) ++ q = _
      rw [if_pos hy]
    obtain ⟨h1, _⟩ := h.2.2 hs 0 q n2_0 e
    exact absurd h1 h0
  · have e : bs.drop s.1 = (clsT l).enc y ++ q := by
      rw [e]
      show (if y = [] then enc 2 0 else _) ++ q = _
      rw [if_neg hy]
    exact k.2.2 hs y q (ho.resolve_left hy) e
/-- Bytes read, how many ahead. -/
theorem Rd.blob {n : Int} (h : Rd n4 bs s n s1) (hb : s1.2 = false) : Rd blobT bs s (Word.getB bs s1.1 n).1 ((Word.getB bs s1.1 n).2.2, !decide ((Word.getB bs s1.1 n).2.1 = 0)) := by
  have h1 := h.1
  have h2 := h.2.1
  unfold Word.getB
  refine ⟨?_, ?_, fun hs y q ho e => ?_⟩
  · split <;> (try split) <;> (dsimp only; omega)
  · split <;> (try split) <;> (dsimp only; omega)
  · have e : bs.drop s.1 = enc 4 (y.length : Int) ++ (y ++ q) := by rw [e]; exact List.append_assoc ..
    obtain ⟨a1, a2, a3⟩ := h.2.2 hs _ _ ho e
    have hl := congrArg List.length a3
    rw [List.length_drop, List.length_append] at hl
    rw [if_neg (by omega), if_neg (by omega)]
    refine ⟨?_, rfl, ?_⟩
    · show (bs.drop s1.1).take n.toNat = y
      rw [a3, a1, Int.toNat_natCast, List.take_left']
      rfl
    · show bs.drop (s1.1 + n.toNat) = q
      rw [← List.drop_drop, a3, a1, Int.toNat_natCast, List.drop_left']
      rfl
end
end Go.Proofs.YtdcaafldnbcdkaaGreatDoor.Class

/-! ### KPut -/
namespace Go.Proofs.YtdcaafldnbcdkaaGreatDoor.Word
open Go Go.Proofs.YtdcaafldnbcdkaaGreatDoor Go.Proofs.YtdcaafldnbcdkaaGreatDoor.Eng Go.Proofs
set_option maxRecDepth 10000

theorem PutO_ok (A : Option Addr) (c : Nat) (bs : List UInt8) (k : Int) (sign : Bool) (C : Option Addr) (q qc : Nat) (zs : List Int) (w : World) (hr : Row w A (bvs bs)) (hc : bs.length ≤ c) (ht : c ≤ 9223372036854775807) (hz : Row w C (ivs zs)) (hq : q = zs.length)
    (hb : ∀ z ∈ zs, -9223372036854775808 ≤ z ∧ z ≤ 9223372036854775807) (hm : bs.length + 8 * zs.length ≤ 140737488355328) :
    Calls Tryz.prog 98 #[.slice A bs.length c, .int .i64 k, .bool sign, .slice C q qc] w fun e w' => ∃ A' c', e = .returned (.tuple #[.slice A' (allBs bs k sign zs).length c', .int .i64 (allErr k sign zs)]) ∧
      New w w' ∧ (good k sign zs = true → w'.ownsRow w.heap.size 5 1 (.slice A' (allBs bs k sign zs).length c') (allBs bs k sign zs).length (bvs (allBs bs k sign zs))) ∧ (good k sign zs = false → A' = A ∧ c' = c) := by
  refine enter ok Tryz.func98 rfl rfl rfl ?_
  refine append2_ ok rfl rfl rfl rfl (own_lit w [] 5 1 0 w.heap.size (Nat.le_refl _) rfl (by omega)) rfl rfl (hr.new (New.alloc _ _)) (by rw [bvs_length]; exact (Nat.mul_one _).symm) (bvs_one bs) (by decide) rfl (by show (0 + bs.length) * 1 ≤ _; omega) (by omega) (by simp) ?_
  intro A0 c0 w0 own0 mod0 _
  rw [Nat.zero_add] at own0
  replace own0 : w0.ownsRow w.heap.size 5 1 (.slice A0 bs.length c0) bs.length (bvs bs) := own0
  have n0 : New w w0 := Mod.trans (New.alloc w _) mod0 (by
    intro i hi h
    simp only [Value.ownBlock, Option.some.injEq] at h
    omega)
  have e0 : (Value.slice A0 (0 + bs.length) c0) = .slice A0 bs.length c0 := by rw [Nat.zero_add]
  refine call_ (refwide_ok k w0) ?_
  rintro e w1 ⟨rfl, rfl⟩
  refine ⟨_, rfl, ?_⟩
  have no : ∀ {w2 : World}, New w w2 → good k sign zs = false → ∃ A' c', Ending.returned (.tuple #[.slice A bs.length c, .int .i64 2]) = .returned (.tuple #[.slice A' (allBs bs k sign zs).length c', .int .i64 (allErr k sign zs)]) ∧
      New w w2 ∧ (good k sign zs = true → w2.ownsRow w.heap.size 5 1 (.slice A' (allBs bs k sign zs).length c') (allBs bs k sign zs).length (bvs (allBs bs k sign zs))) ∧ (good k sign zs = false → A' = A ∧ c' = c) := by
    intro w2 n2 hg
    unfold allErr allBs
    rw [hg]
    exact ⟨A, c, rfl, n2, (fun h => by cases h), fun _ => ⟨rfl, rfl⟩⟩
  refine if_ (fun hwk => ?_) (fun hwk => ?_)
  · exact no n0 (by
      have : wide k = false := by simpa using hwk
      unfold good
      rw [this]
      rfl)
  replace hwk : wide k = true := by simpa using hwk
  have hkc := wide_cases hwk
  refine den_loop (σ := Nat × Option Addr × Nat × Nat) (fun s => [(0, .slice A bs.length c), (1, .int .i64 k), (2, .bool sign), (3, .slice C q qc), (10, .slice s.2.1 s.2.2.1 s.2.2.2), (11, .int .i64 s.1)])
    (fun m s wl => s.1 ≤ q ∧ m = q - s.1 ∧ s.2.2.1 = (bs ++ (zs.take s.1).flatMap (enc k.toNat)).length ∧ wl.ownsRow w.heap.size 5 1 (.slice s.2.1 s.2.2.1 s.2.2.2) s.2.2.1 (bvs (bs ++ (zs.take s.1).flatMap (enc k.toNat))) ∧ New w wl ∧ (zs.take s.1).any (fun n => !fits k n sign) = false) q (0, A0, bs.length, c0) ⟨rfl, rfl, rfl, rfl, e0, rfl, trivial⟩
    ⟨Nat.zero_le _, rfl, by simp, by simpa using own0, n0, by simp⟩ ?_
  rintro m ⟨i, A1, n1, c1⟩ wl fr0 ⟨hi, rfl, hn1, own1, nl, hno⟩
  dsimp only at hi hn1 own1 nl hno
  have hlen : (bs ++ (zs.take i).flatMap (enc k.toNat)).length = bs.length + k.toNat * i := by rw [List.length_append, flat_length, List.length_take, Nat.min_eq_left (by omega)]
  have hki : k.toNat * i ≤ 8 * i := Nat.mul_le_mul_right _ (by omega)
  refine if_p (fun hlt => ?_) (fun hge => ?_)
  · have hi' : i < zs.length := by omega
    obtain ⟨a, rfl, hcell⟩ := (hz.new nl).at_ i (by simp [ivs]; omega)
    have hzv : (ivs zs)[i]'(by simp [ivs]; omega) = .int .i64 zs[i] := by simp [ivs]
    rw [hzv] at hcell
    obtain ⟨lo, up⟩ := hb zs[i] (List.getElem_mem hi')
    refine And.intro (by omega) (And.intro hlt (some_at rfl (Exists.intro _ (And.intro (by rw [Nat.mul_one, Int.toNat_natCast]; exact hcell) ?_))))
    refine call_ (NBytes_ok k zs[i] sign wl lo up) ?_
    rintro e w5 ⟨v, rfl, own5, n5⟩
    obtain ⟨A5, c5, rfl, _, _, row5, _⟩ := own_slice own5
    refine ⟨_, rfl, ?_⟩
    refine if_ (fun hbad => ?_) (fun hgood => ?_)
    · exact no (nl.trans n5) (good_false hi' (Bool.not_eq_true' _ ▸ hbad))
    replace hgood : (wide k && fits k zs[i] sign) = true := by simpa using hgood
    have hen : encOr k zs[i] sign = enc k.toNat zs[i] := by unfold encOr; rw [if_pos hgood]
    rw [hen] at row5
    have hfit : fits k zs[i] sign = true := by rw [hwk, Bool.true_and] at hgood; exact hgood
    have own6 := own_new n5 own1
    have hl5 : (encOr k zs[i] sign).length = k.toNat := by rw [hen, enc_length]
    refine append2_ ok rfl rfl rfl rfl own6 rfl rfl row5 (by rw [bvs_length, hl5, enc_length]; exact (Nat.mul_one _).symm) (bvs_one _) (by decide) rfl (by rw [hl5]; show (n1 + k.toNat) * 1 ≤ _; omega) (by rw [hl5]; omega) (Nat.le_trans nl.size n5.size) ?_
    intro A7 c7 w7 own7 mod7 _
    have n7 := New.of_own (nl.trans n5) own6 mod7
    refine ⟨q - (i + 1), (i + 1, A7, n1 + k.toNat, c7), by omega, ⟨rfl, rfl, rfl, rfl, ?_, ?_, trivial⟩, by show i + 1 ≤ q; omega, rfl, ?_, ?_, n7, ?_⟩
    · show Value.slice A7 (n1 + (encOr k zs[i] sign).length) c7 = _
      rw [hl5]
    · show Value.int .i64 (IntKind.i64.wrap _) = _
      rw [wrap_i64 (by omega) (by omega)]
      rfl
    · show n1 + k.toNat = _
      rw [flat_take zs _ i hi', ← List.append_assoc, List.length_append, enc_length, ← hn1]
    · show w7.ownsRow w.heap.size 5 1 (.slice A7 (n1 + k.toNat) c7) (n1 + k.toNat) (bvs (bs ++ (zs.take (i + 1)).flatMap (enc k.toNat)))
      rw [flat_take zs _ i hi', ← List.append_assoc, bvs_append]
      rw [hl5] at own7
      exact own7
    · show (zs.take (i + 1)).any _ = false
      rw [List.take_succ_eq_append_getElem hi', List.any_append, hno, Bool.false_or, List.any_cons, List.any_nil, Bool.or_false, hfit]
      rfl
  · have : i = q := by omega
    subst this
    rw [hq, List.take_length] at hno hn1 own1
    have hg : good k sign zs = true := by
      unfold good
      rw [hwk, hno]
      rfl
    unfold allErr allBs
    rw [hg, if_pos rfl, if_pos rfl]
    subst hn1
    exact ⟨_, _, rfl, nl, (fun _ => own1), fun h => by cases h⟩

end Go.Proofs.YtdcaafldnbcdkaaGreatDoor.Word

/-! ### Eq -/
namespace Go.Proofs.YtdcaafldnbcdkaaGreatDoor.Eng
open Go
section
variable {P : Program} {T : Tab} {F : FuncId → Bool}
def cellEq : Value → Value → Bool
  | .int _ a, .int _ b => decide (a = b)
  | .string a, .string b => decide (a = b)
  | .bool a, .bool b => decide (a = b)
  | _, _ => false
def oneOk : TypeDesc → Value → Value → Bool
  | .int _, .int k _, .int k' _ => decide (k = k')
  | .string, .string _, .string _ => true
  | .bool, .bool _, .bool _ => true
  | _, _, _ => false
/-- The fields of two structs fit, by the table. -/
def flatOk (T : Tab) (xs ys : Array Value) (f : Field) : Bool := f.name != "_" && (match T f.type, xs[f.offset]?, ys[f.offset]? with
  | some ti, some u, some v => oneOk ti.desc u v
  | _, _, _ => false)
def flatEq (xs ys : Array Value) (fs : List Field) : Bool := fs.all fun f => match xs[f.offset]?, ys[f.offset]? with
  | some u, some v => cellEq u v
  | _, _ => false
theorem eq_str (a b : ByteArray) : (a == b) = decide (a = b) := by
  show (a.data == b.data) = _
  by_cases h : a = b
  · rw [decide_eq_true h, h]; simp
  · rw [decide_eq_false h]
    have : ¬ a.data = b.data := fun e => h (ByteArray.ext e)
    simpa using this
theorem eqFields_flat (hT : TabOk P T F) {xs ys : Array Value} (d : Nat) (w : World) : ∀ fs : List Field, fs.all (flatOk T xs ys) = true → (Op.eqFields (d + 1) xs ys fs).run P w = .ok (flatEq xs ys fs) w
  | [], _ => by simp [Op.eqFields, flatEq]
  | f :: fs, h => by
    rw [List.all_cons, Bool.and_eq_true] at h
    obtain ⟨h1, h2⟩ := h
    have ih := eqFields_flat hT d w fs h2
    unfold flatOk at h1
    rw [Bool.and_eq_true] at h1
    obtain ⟨hn, h1⟩ := h1
    have hn' : f.name ≠ "_" := by simpa using hn
    unfold flatEq at ih ⊢
    rw [List.all_cons]
    cases ht : T f.type with
    | none => rw [ht] at h1; simp at h1
    | some ti =>
      cases hx : xs[f.offset]? with
      | none => rw [ht, hx] at h1; simp at h1
      | some u =>
        cases hy : ys[f.offset]? with
        | none => rw [ht, hx, hy] at h1; simp at h1
        | some v =>
          rw [ht, hx, hy] at h1
          simp only at h1 ⊢
          have hu := hT.desc _ _ ht
          have go : ∀ r : Bool, (Op.equalIn (d + 1) f.type u v).run P w = .ok r w → (isAgg f.type).run P w = .ok false w → cellEq u v = r → (Op.eqFields (d + 1) xs ys (f :: fs)).run P w = .ok (cellEq u v && fs.all fun f => match xs[f.offset]?, ys[f.offset]? with
              | some u, some v => cellEq u v
              | _, _ => false) w := by
            intro r hr ha hc
            have px : (part f.type xs f.offset).run P w = .ok u w := by simp [part, ha, hx]
            have py : (part f.type ys f.offset).run P w = .ok v w := by simp [part, ha, hy]
            simp only [Op.eqFields, hn', ne_eq, not_false_eq_true, if_true, Sem.run_bind, px, py, hr, Result.andThen_ok]
            rw [hc]
            cases r
            · simp
            · simpa using ih
          cases hd : ti.desc <;> rw [hd] at h1 hu <;> (try simp only [oneOk] at h1) <;> try (cases h1; done)
          all_goals
            cases u <;> (try simp only [oneOk] at h1) <;> try (cases h1; done)
          all_goals
            cases v <;> (try simp only [oneOk] at h1) <;> try (cases h1; done)
          · exact go _ (eq_bool hu d _ _ w) (by simp [isAgg, run_underlying hu]) rfl
          · replace h1 := of_decide_eq_true h1
            subst h1
            refine go (cellEq _ _) ?_ (by simp [isAgg, run_underlying hu]) rfl
            simp [Op.equalIn, run_underlying hu, cellEq]
            rfl
          · refine go (cellEq _ _) ?_ (by simp [isAgg, run_underlying hu]) rfl
            simp [Op.equalIn, run_underlying hu, cellEq, eq_str]
/-- A struct's literal. -/
theorem build_ {t : TypeId} {parts : List (Nat × Value)} {put : Value → Prop} {ti : TI} {fs : Array Field} {cells : List Value} (ht : T t = some ti) (hd : ti.desc = .struct fs) (ha : fs.toList.all (fun f => (T f.type).isSome) = true) (hf : fillL (fieldPlaces T fs) ti.zero parts = some cells) (k : put (.agg cells.toArray)) : evBuild T t parts put := by
  unfold evBuild
  rw [ht]
  simp only [hd, ha, hf]
  exact k
/-- '==' and '!=' of two such structs. -/
theorem agg_cmp (hT : TabOk P T F) {o : Oper} {op : BinOp} {t u : TypeId} {x y : Operand} {fr : Fr} {ti : TI} {fs : Array Field} {xs ys : Array Value} (ho : o.op = .binOp op t x y u) (ht : T t = some ti) (hd : ti.desc = .struct fs) (hs : P.stoodInHeld t = false) (hg : P.eqGuardType P.depth t = false)
    (hx : ev fr x = .agg xs) (hy : ev fr y = .agg ys) (hf : fs.toList.all (flatOk T xs ys) = true) (b : Bool) (hb : op = .eql ∧ b = flatEq xs ys fs.toList ∨ op = .neq ∧ b = !flatEq xs ys fs.toList) (w : World) :
    (execOp (ev fr) o).run P w = .ok (.value (.bool b)) w := by
  have hu := hT.desc _ _ ht
  rw [hd] at hu
  have he : (Op.equal t (.agg xs) (.agg ys)).run P w = .ok (flatEq xs ys fs.toList) w := by
    unfold Op.equal Op.maxDepth
    have hfs : P.fieldsOf t = fs := by simp [Program.fieldsOf, hu]
    rw [show (10000 : Nat) = 9998 + 1 + 1 from rfl, run_equalIn_struct w (9998 + 1) t xs ys (by rw [hfs]; exact hu) hs, hfs]
    exact eqFields_flat hT 9998 w fs.toList hf
  have hguard : ∀ op, (eqGuard op t x y (.agg xs) (.agg ys)).run P w = .ok () w := by
    intro op
    cases op <;> simp [eqGuard, hg]
  simp only [execOp, ho, hx, hy, Sem.run_bind, hguard, Result.andThen_ok]
  rcases hb with ⟨rfl, rfl⟩ | ⟨rfl, rfl⟩
  · simp [binOp, he]
  · simp [binOp, he]
end
end Go.Proofs.YtdcaafldnbcdkaaGreatDoor.Eng

/-! ### PWalk1 -/
namespace Go.Proofs.YtdcaafldnbcdkaaGreatDoor.Pool
open Go Go.Proofs.YtdcaafldnbcdkaaGreatDoor Go.Proofs.YtdcaafldnbcdkaaGreatDoor.Eng Go.Proofs
set_option maxRecDepth 10000

theorem size_str (d : List UInt8) : (ByteArray.mk d.toArray).size = d.length := by simp [ByteArray.size]
theorem get_str (d : List UInt8) (i : Nat) (h : i < (ByteArray.mk d.toArray).size) (h' : i < d.length) : (ByteArray.mk d.toArray)[i]'h = d[i] := by
  show d.toArray[i]'(by simpa using h') = _
  simp
def okB1 (c : UInt8) : Bool := decide (33 ≤ c.toNat) && decide (c.toNat ≤ 126)
theorem rune_ok (c : Int) (w : World) : Calls Tryz.prog 118 #[.int .i32 c] w fun e w' => e = .returned (.bool (decide (c < 33) || decide (126 < c))) ∧ w' = w := by
  refine enter ok Tryz.func118 rfl rfl rfl ?_
  refine if_p (fun h => ⟨?_, rfl⟩) (fun h => ⟨?_, rfl⟩)
  · rw [decide_eq_true h]; rfl
  · rw [decide_eq_false h]; rfl
theorem indexFunc_ok (s : List UInt8) (w : World) (hs : s.length ≤ 9223372036854775807) :
    Calls Tryz.prog 121 #[strV s, .func (.func 118) #[] #[], .bool true] w fun e w' => ∃ z : Int, e = .returned (.int .i64 z) ∧ decide (0 ≤ z) = !s.all okB1 ∧ New w w' := by
  refine enter ok Tryz.func121 rfl rfl rfl ?_
  refine seq_assign (seq_ (seq_ (region_ ?_)))
  refine op_ rfl (op_move rfl (op_ rfl (op_range rfl ?_)))
  refine rangeS_ (P := Tryz.prog) (s := ⟨s.toArray⟩) rfl uStr rfl ?_
  refine den_loop (σ := Nat) (fun _ => [(1, .func (.func 118) #[] #[]), (2, .bool true), (10, .pointer (some ⟨w.heap.size, 0, none⟩))])
    (fun m p wl => p ≤ s.length ∧ m = s.length - p ∧ (∀ j (h : j < s.length), j < p → okB1 s[j] = true) ∧ wl = w.iter ⟨s.toArray⟩ p) s.length 0 ⟨rfl, rfl, rfl, trivial⟩ ⟨Nat.zero_le _, rfl, fun j _ h => absurd h (Nat.not_lt_zero _), rfl⟩ ?_
  rintro m p wl fr0 ⟨hp, rfl, hall, rfl⟩
  refine seq_ (region_ (op_ rfl (op_next rfl ?_)))
  refine nextS_ (P := Tryz.prog) (s := ⟨s.toArray⟩) rfl rfl (fun hlt => ?_) (fun hge => ?_)
  · have hl : p < s.length := by rw [size_str] at hlt; exact hlt
    refine call_ (rune_ok _ _) ?_
    rintro e w' ⟨rfl, rfl⟩
    refine ⟨_, rfl, ?_⟩
    have hg := get_str s p hlt hl
    by_cases ha : (s[p]).toNat < 128
    · rw [decode_ascii _ p hlt (by rw [hg]; exact ha), hg]
      dsimp only
      by_cases hb : okB1 s[p] = true
      · have hb' := hb
        unfold okB1 at hb'
        simp only [Bool.and_eq_true, decide_eq_true_eq] at hb'
        refine if_no (b := decide _) ?_ ?_
        · refine decide_eq_false ?_
          rw [decide_eq_false (by omega), decide_eq_false (by omega)]
          decide
        · refine ⟨s.length - (p + 1), p + 1, by omega, ⟨rfl, rfl, rfl, trivial⟩, by omega, rfl, fun j hj hjp => ?_, rfl⟩
          rcases Nat.lt_or_ge j p with h | h
          · exact hall j hj h
          · have : j = p := by omega
            subst this
            exact hb
      · have hb' : ¬ (33 ≤ (s[p]).toNat ∧ (s[p]).toNat ≤ 126) := by
          intro h
          apply hb
          unfold okB1
          rw [decide_eq_true h.1, decide_eq_true h.2]
          rfl
        refine if_yes (b := decide _) ?_ ?_
        · refine decide_eq_true ?_
          by_cases h33 : (s[p]).toNat < 33
          · rw [decide_eq_true (by omega)]; rfl
          · rw [decide_eq_true (p := 126 < _) (by omega), Bool.or_true]
        · refine ⟨(p : Int), rfl, ?_, New.iter _ _ _⟩
          rw [decide_eq_true (by omega)]
          have : s.all okB1 = false := List.all_eq_false.2 ⟨_, List.getElem_mem hl, by simpa using hb⟩
          rw [this]
          rfl
    · obtain ⟨h1, _⟩ := decode_high (ByteArray.mk s.toArray) p hlt (by rw [hg]; omega)
      generalize Utf8.decode (ByteArray.mk s.toArray) p = r at h1
      refine if_yes (b := decide _) ?_ ?_
      · refine decide_eq_true ?_
        rw [decide_eq_true (p := 126 < _) (by omega), Bool.or_true]
      · refine ⟨(p : Int), rfl, ?_, New.iter _ _ _⟩
        rw [decide_eq_true (by omega)]
        have : s.all okB1 = false := List.all_eq_false.2 ⟨_, List.getElem_mem hl, by
          unfold okB1
          rw [decide_eq_false (p := (s[p]).toNat ≤ 126) (by omega), Bool.and_false]
          decide⟩
        rw [this]
        rfl
  · have hl : p = s.length := by rw [size_str] at hge; omega
    refine ⟨-1, rfl, ?_, New.iter _ _ _⟩
    have : s.all okB1 = true := List.all_eq_true.2 fun x hx => by
      obtain ⟨j, hj, rfl⟩ := List.getElem_of_mem hx
      exact hall j hj (by omega)
    rw [this]
    rfl
theorem right_ok (s : List UInt8) (w : World) (hs : s.length ≤ 9223372036854775807) :
    Calls Tryz.prog 102 #[strV s] w fun e w' => e = .returned (.bool (rightT s)) ∧ New w w' := by
  refine enter ok Tryz.func102 rfl rfl rfl ?_
  refine if_p (fun h => ?_) (fun h => ?_)
  · replace h : ((ByteArray.mk s.toArray).size : Int) ≤ 255 := h
    rw [size_str] at h
    have hI := indexFunc_ok s w hs
    have hC : Calls Tryz.prog 117 #[strV s, .func (.func 118) #[] #[]] w fun e w' => e = .returned (.bool (!s.all okB1)) ∧ New w w' := by
      refine enter ok Tryz.func117 rfl rfl rfl ?_
      refine call_ (R := fun e w' => ∃ z : Int, e = .returned (.int .i64 z) ∧ decide (0 ≤ z) = !s.all okB1 ∧ New w w') (enter ok Tryz.func120 rfl rfl rfl (call_ hI (by
        rintro e w' ⟨z, rfl, h1, h2⟩
        exact ⟨_, rfl, z, rfl, h1, h2⟩))) ?_
      rintro e w' ⟨z, rfl, h1, h2⟩
      refine ⟨_, rfl, ?_, h2⟩
      rw [← h1]
      rfl
    refine call_ hC ?_
    rintro e w' ⟨rfl, h2⟩
    refine ⟨_, rfl, ?_, h2⟩
    show Ending.returned (.bool (!!s.all okB1)) = .returned (.bool (decide (s.length ≤ 255) && s.all okB1))
    rw [decide_eq_true (by omega), Bool.not_not, Bool.true_and]
  · replace h : ¬ (((ByteArray.mk s.toArray).size : Nat) : Int) ≤ 255 := h
    rw [size_str] at h
    refine ⟨?_, New.refl _⟩
    show Ending.returned (.bool false) = .returned (.bool (decide (s.length ≤ 255) && s.all okB1))
    have h' : ¬ s.length ≤ 255 := by omega
    rw [decide_eq_false h', Bool.false_and]
theorem small_ok (n : Int) (w : World) (hn : I64 n) : Calls Tryz.prog 103 #[.int .i64 n] w fun e w' => e = .returned (.bool (small n)) ∧ w' = w := by
  refine enter ok Tryz.func103 rfl rfl rfl ?_
  refine ⟨?_, rfl⟩
  show Ending.returned (.bool (decide (n = IntKind.i64.wrap (IntKind.i32.wrap n)))) = _
  have e : IntKind.i32.wrap n = (n + 2147483648) % 4294967296 - 2147483648 := by
    simp [IntKind.wrap, IntKind.bits, IntKind.signed]
    split <;> omega
  unfold small
  rw [e, wrap_i64 (by omega) (by omega)]
  by_cases h : -2147483648 ≤ n ∧ n ≤ 2147483647
  · rw [decide_eq_true h.1, decide_eq_true h.2, decide_eq_true (by omega)]
    rfl
  · rw [decide_eq_false (by omega)]
    by_cases h1 : -2147483648 ≤ n
    · rw [decide_eq_false (p := n ≤ 2147483647) (by omega), Bool.and_false]
    · rw [decide_eq_false h1, Bool.false_and]
/-- A pool in memory. -/
structure Pl (w : World) (A : Option Addr) (n : Nat) (l : List Ent) : Prop where
  len : n = l.length
  row : Rows2 w A 5 (l.map entC)
  oks : ∀ x ∈ l, EntOk x
  top : n ≤ 9223372036854775807
theorem Pl.new {w w' : World} {A : Option Addr} {n : Nat} {l : List Ent} (h : Pl w A n l) (k : New w w') : Pl w' A n l := ⟨h.len, h.row.new k, h.oks, h.top⟩
theorem Pl.at_ {w : World} {A : Option Addr} {n : Nat} {l : List Ent} (h : Pl w A n l) {i : Nat} (hi : i < n) : ∃ a, A = some a ∧ EntOk (at_ l i) ∧ ∀ j u, (entC (at_ l i))[j]? = some u → w.cell? ((a.add (i * 5)).add j) = some u := by
  have hl : i < l.length := by rw [← h.len]; exact hi
  obtain ⟨a, ha, hc⟩ := h.row.at_ i (by simpa using hl)
  refine ⟨a, ha, ?_, ?_⟩
  · rw [at_lt hl]; exact h.oks _ (List.getElem_mem _)
  · intro j u hu
    rw [at_lt hl] at hu
    exact hc j u (by simpa using hu)
theorem tag_ok (A : Option Addr) (n c : Nat) (l : List Ent) (i : Int) (w : World) (h : Pl w A n l) :
    Calls Tryz.prog 104 #[.slice A n c, .int .i64 i] w fun e w' => e = .returned (.int .i64 (tagAt l i)) ∧ w' = w := by
  refine enter ok Tryz.func104 rfl rfl rfl ?_
  have hl := h.len
  unfold tagAt
  refine if_p (fun h0 => by rw [if_pos (.inl h0)]; exact ⟨rfl, rfl⟩) (fun h0 => ?_)
  replace h0 : ¬ i < 0 := h0
  refine if_p (fun h1 => by rw [if_pos (.inr (by rw [← hl]; exact h1))]; exact ⟨rfl, rfl⟩) (fun h1 => ?_)
  replace h1 : ¬ (n : Int) ≤ i := h1
  rw [if_neg (by omega)]
  obtain ⟨k, rfl⟩ : ∃ k : Nat, i = k := ⟨i.toNat, by omega⟩
  obtain ⟨a, rfl, _, hc⟩ := h.at_ (i := k) (by omega)
  refine And.intro (by omega) (And.intro (by omega) ?_)
  refine Exists.intro (at_ l k).tag ?_
  exact And.intro (by rw [Int.toNat_natCast]; exact hc 0 _ rfl) ⟨rfl, rfl⟩
theorem rtag_ok (A : Option Addr) (n c : Nat) (l : List Ent) (i : Int) (w : World) (h : Pl w A n l) :
    Calls Tryz.prog 96 #[.slice A n c, .int .i64 i] w fun e w' => e = .returned (.int .i64 (tagAt l i)) ∧ w' = w := by
  refine enter ok Tryz.func96 rfl rfl rfl ?_
  have hl := h.len
  unfold tagAt
  refine if_p (fun h0 => by rw [if_pos (.inl h0)]; exact ⟨rfl, rfl⟩) (fun h0 => ?_)
  replace h0 : ¬ i < 0 := h0
  refine if_p (fun h1 => by rw [if_pos (.inr (by rw [← hl]; exact h1))]; exact ⟨rfl, rfl⟩) (fun h1 => ?_)
  replace h1 : ¬ (n : Int) ≤ i := h1
  rw [if_neg (by omega)]
  obtain ⟨k, rfl⟩ : ∃ k : Nat, i = k := ⟨i.toNat, by omega⟩
  obtain ⟨a, rfl, _, hc⟩ := h.at_ (i := k) (by omega)
  refine And.intro (by omega) (And.intro (by omega) ?_)
  refine Exists.intro (at_ l k).tag ?_
  exact And.intro (by rw [Int.toNat_natCast]; exact hc 0 _ rfl) ⟨rfl, rfl⟩
theorem entC_one (x : Ent) : ∀ u ∈ entC x, u.oneCell' = true := by
  intro u hu
  simp [entC] at hu
  rcases hu with rfl | rfl | rfl | rfl | rfl <;> rfl
theorem entEq (x y : Ent) : decide (x = y) = (decide (x.tag = y.tag) && (decide ((⟨x.text.toArray⟩ : ByteArray) = ⟨y.text.toArray⟩) && (decide (x.n = y.n) && (decide (x.a = y.a) && (decide (x.b = y.b) && true))))) := by
  rw [Base.same_iff]
  by_cases h : x = y
  · subst h; simp
  · rw [decide_eq_false h]
    symm
    have h' : ¬ (x.tag = y.tag ∧ x.text = y.text ∧ x.n = y.n ∧ x.a = y.a ∧ x.b = y.b) := fun e => h ((Ent.iff x y).1 e)
    simpa using h'
/-- Entries compared. -/
theorem ent_eql {o : Oper} {x y : Operand} {u : TypeId} {fr : Fr} {p q : Ent} {w : World} {K : Fr → World → Prop} (ho : o.op = .binOp .eql 85 x y u) (hx : ev fr x = entV p) (hy : ev fr y = entV q) (k : K (putF fr o.dst (.bool (decide (p = q)))) w) : raw Tryz.prog o fr w K :=
  raw_value (agg_cmp ok ho rfl rfl (by kernel_rfl) (by kernel_rfl) hx hy rfl (decide (p = q)) (.inl ⟨rfl, entEq p q⟩) w) k
theorem ent_neq {o : Oper} {x y : Operand} {u : TypeId} {fr : Fr} {p q : Ent} {w : World} {K : Fr → World → Prop} (ho : o.op = .binOp .neq 85 x y u) (hx : ev fr x = entV p) (hy : ev fr y = entV q) (k : K (putF fr o.dst (.bool (!decide (p = q)))) w) : raw Tryz.prog o fr w K :=
  raw_value (agg_cmp ok ho rfl rfl (by kernel_rfl) (by kernel_rfl) hx hy rfl (!decide (p = q)) (.inr ⟨rfl, congrArg (!·) (entEq p q)⟩) w) k
end Go.Proofs.YtdcaafldnbcdkaaGreatDoor.Pool

/-! ### PWalk2 -/
namespace Go.Proofs.YtdcaafldnbcdkaaGreatDoor.Pool
open Go Go.Proofs.YtdcaafldnbcdkaaGreatDoor Go.Proofs.YtdcaafldnbcdkaaGreatDoor.Eng Go.Proofs
set_option maxRecDepth 10000

def entZ : Array Value := #[.int .i64 0, .string ⟨#[]⟩, .int .i64 0, .int .i64 0, .int .i64 0]
theorem fits_ok (A : Option Addr) (n c : Nat) (l : List Ent) (i : Nat) (w : World) (h : Pl w A n l) (hi : i < n) :
    Calls Tryz.prog 80 #[.slice A n c, .int .i64 i] w fun e w' => e = .returned (.bool (fits l i)) ∧ New w w' := by
  refine enter ok Tryz.func80 rfl rfl rfl ?_
  obtain ⟨a, rfl, hok, hc⟩ := h.at_ hi
  have htop := h.top
  have hlen := h.len
  refine And.intro (by omega) (And.intro (by omega) ?_)
  refine loadN_row (vs := entC (at_ l i)) (by rw [Int.toNat_natCast]; exact hc) rfl ?_
  have hfit : ∀ B D, bare (at_ l i) = B → demand l i (at_ l i) = D → fits l i = (decide (at_ l i = B) && D) := by
    intro B D h1 h2
    unfold fits
    rw [← h1, h2]
  generalize at_ l i = x at hok hc hfit
  have yes : ∀ B D, bare x = B → demand l i x = D → x = B → fits l i = D := fun B D h1 h2 h3 => by rw [hfit B D h1 h2, decide_eq_true h3, Bool.true_and]
  have no : ∀ B D, bare x = B → demand l i x = D → ¬ x = B → fits l i = false := fun B D h1 h2 h3 => by rw [hfit B D h1 h2, decide_eq_false h3, Bool.false_and]
  refine And.intro rfl ?_
  refine storeNew (vs := entC x) (arr := entZ) rfl (entC_one x) ?_
  intro w1 hb1 n1 s1
  refine Exists.intro x.tag (And.intro (cellB hb1 rfl) ?_)
  refine And.intro rfl ?_
  refine storeNew (vs := entC ⟨x.tag, [], 0, 0, 0⟩) (arr := entZ) rfl (entC_one _) ?_
  intro w2 hb2 n2 s2
  have k2 := n1.trans n2
  have hb12 := n2.blk hb1
  refine Exists.intro x.tag (And.intro (cellB hb12 rfl) ?_)
  refine if_p (fun ht => ?_) (fun t1 => ?_)
  · have hB : bare x = ⟨x.tag, x.text, 0, 0, 0⟩ := by unfold bare; rw [if_pos ht]
    have hD : demand l i x = rightT x.text := by unfold demand; rw [if_pos ht]
    refine Exists.intro (⟨x.text.toArray⟩ : ByteArray) (And.intro (cellB hb12 rfl) ?_)
    refine And.intro ⟨_, cellB hb2 rfl⟩ (And.intro (fzB hb2 _) (force_ ?_))
    refine stK hb2 (show (1 : Nat) < 5 by decide) ?_
    intro w3 hb3 m3 s3
    have hb13 := m3.keep hb12 (by omega)
    have k3 := k2.st m3 (by omega)
    have hb3' : w3.heap[w1.heap.size]? = some (.cells (entC ⟨x.tag, x.text, 0, 0, 0⟩).toArray _ (0, 0)) := hb3
    refine loadN_row (vs := entC x) (rowB hb13) rfl ?_
    refine loadN_row (vs := entC ⟨x.tag, x.text, 0, 0, 0⟩) (rowB hb3') rfl ?_
    refine ent_eql rfl rfl rfl ?_
    refine if_p (fun he => ?_) (fun hne => ?_)
    · refine Exists.intro (⟨x.text.toArray⟩ : ByteArray) (And.intro (cellB hb13 rfl) ?_)
      refine call_ (right_ok x.text w3 hok.text) ?_
      rintro e w4 ⟨rfl, n4⟩
      refine ⟨_, rfl, ?_⟩
      rw [yes _ _ hB hD he]
      exact ⟨rfl, k3.trans n4⟩
    · rw [no _ _ hB hD hne]
      exact ⟨rfl, k3⟩
  replace t1 : ¬ x.tag = 1 := t1
  refine if_p (fun ht => ?_) (fun t3 => ?_)
  · have hB : bare x = ⟨x.tag, [], x.n, 0, 0⟩ := by unfold bare; rw [if_neg t1, if_pos (.inl ht)]
    have hD : demand l i x = small x.n := by unfold demand; rw [if_neg t1, if_pos ht]
    refine Exists.intro x.n (And.intro (cellB hb12 rfl) ?_)
    refine And.intro ⟨_, cellB hb2 rfl⟩ (And.intro (fzB hb2 _) (force_ ?_))
    refine stK hb2 (show (2 : Nat) < 5 by decide) ?_
    intro w3 hb3 m3 s3
    have hb13 := m3.keep hb12 (by omega)
    have k3 := k2.st m3 (by omega)
    have hb3' : w3.heap[w1.heap.size]? = some (.cells (entC ⟨x.tag, [], x.n, 0, 0⟩).toArray _ (0, 0)) := hb3
    refine loadN_row (vs := entC x) (rowB hb13) rfl ?_
    refine loadN_row (vs := entC ⟨x.tag, [], x.n, 0, 0⟩) (rowB hb3') rfl ?_
    refine ent_eql rfl rfl rfl ?_
    refine if_p (fun he => ?_) (fun hne => ?_)
    · refine Exists.intro x.n (And.intro (cellB hb13 rfl) ?_)
      refine call_ (small_ok x.n w3 hok.n) ?_
      rintro e w4 ⟨rfl, rfl⟩
      refine ⟨_, rfl, ?_⟩
      rw [yes _ _ hB hD he]
      exact ⟨rfl, k3⟩
    · rw [no _ _ hB hD hne]
      exact ⟨rfl, k3⟩
  replace t3 : ¬ x.tag = 3 := t3
  refine if_p (fun ht => ?_) (fun t5 => ?_)
  · have hB : bare x = ⟨x.tag, [], x.n, 0, 0⟩ := by unfold bare; rw [if_neg t1, if_pos (.inr ht)]
    have hD : demand l i x = (decide (i + 1 < l.length) && decide (at_ l (i + 1 : Nat) = e0)) := by unfold demand; rw [if_neg t1, if_neg t3, if_pos ht]
    refine Exists.intro x.n (And.intro (cellB hb12 rfl) ?_)
    refine And.intro ⟨_, cellB hb2 rfl⟩ (And.intro (fzB hb2 _) (force_ ?_))
    refine stK hb2 (show (2 : Nat) < 5 by decide) ?_
    intro w3 hb3 m3 s3
    have hb13 := m3.keep hb12 (by omega)
    have k3 := k2.st m3 (by omega)
    have hb3' : w3.heap[w1.heap.size]? = some (.cells (entC ⟨x.tag, [], x.n, 0, 0⟩).toArray _ (0, 0)) := hb3
    refine loadN_row (vs := entC x) (rowB hb13) rfl ?_
    refine loadN_row (vs := entC ⟨x.tag, [], x.n, 0, 0⟩) (rowB hb3') rfl ?_
    refine ent_eql rfl rfl rfl ?_
    refine if_p (fun he => ?_) (fun hne => ?_)
    · have e1 : IntKind.i64.wrap ((i : Int) + 1) = ((i + 1 : Nat) : Int) := by rw [wrap_i64 (by omega) (by omega)]; omega
      rw [yes _ _ hB hD he]
      refine if_p (fun hlt => ?_) (fun hge => ?_)
      · rw [e1] at hlt
        replace hlt : ((i + 1 : Nat) : Int) < n := hlt
        obtain ⟨a', ha', _, hc'⟩ := h.at_ (i := i + 1) (by omega)
        cases ha'
        refine And.intro (by rw [e1]; omega) (And.intro (by rw [e1]; omega) ?_)
        refine loadN_row (vs := entC (at_ l (i + 1 : Nat))) (fun j u hu => by rw [e1, Int.toNat_natCast]; exact k3.cell (hc' j u hu)) rfl ?_
        refine ent_eql (q := e0) rfl rfl rfl ?_
        rw [decide_eq_true (by omega), Bool.true_and]
        exact ⟨rfl, k3⟩
      · rw [e1] at hge
        replace hge : ¬ ((i + 1 : Nat) : Int) < n := hge
        rw [decide_eq_false (p := i + 1 < l.length) (by omega), Bool.false_and]
        exact ⟨rfl, k3⟩
    · rw [no _ _ hB hD hne]
      exact ⟨rfl, k3⟩
  replace t5 : ¬ x.tag = 5 := t5
  refine if_p (fun ht => ?_) (fun t7 => ?_)
  · have hB : bare x = ⟨x.tag, [], 0, x.a, 0⟩ := by unfold bare; rw [if_neg t1, if_neg (by omega), if_pos ht]
    have hD : demand l i x = decide (tagAt l x.a = 1) := by unfold demand; rw [if_neg t1, if_neg t3, if_neg t5, if_pos ht]
    refine Exists.intro x.a (And.intro (cellB hb12 rfl) ?_)
    refine And.intro ⟨_, cellB hb2 rfl⟩ (And.intro (fzB hb2 _) (force_ ?_))
    refine stK hb2 (show (3 : Nat) < 5 by decide) ?_
    intro w3 hb3 m3 s3
    have hb13 := m3.keep hb12 (by omega)
    have k3 := k2.st m3 (by omega)
    have hb3' : w3.heap[w1.heap.size]? = some (.cells (entC ⟨x.tag, [], 0, x.a, 0⟩).toArray _ (0, 0)) := hb3
    refine loadN_row (vs := entC x) (rowB hb13) rfl ?_
    refine loadN_row (vs := entC ⟨x.tag, [], 0, x.a, 0⟩) (rowB hb3') rfl ?_
    refine ent_eql rfl rfl rfl ?_
    refine if_p (fun he => ?_) (fun hne => ?_)
    · refine Exists.intro x.a (And.intro (cellB hb13 rfl) ?_)
      refine call_ (tag_ok (some a) n c l x.a w3 (h.new k3)) ?_
      rintro e w4 ⟨rfl, rfl⟩
      refine ⟨_, rfl, ?_⟩
      rw [yes _ _ hB hD he]
      exact ⟨rfl, k3⟩
    · rw [no _ _ hB hD hne]
      exact ⟨rfl, k3⟩
  replace t7 : ¬ x.tag = 7 := t7
  have hB : bare x = ⟨x.tag, [], 0, x.a, x.b⟩ := by unfold bare; rw [if_neg t1, if_neg (by omega), if_neg t7]
  refine draw_ (w := w2) ok (.q 0 (.q 1 (.q 2 (.q 3 (.q 4 (.e 5 (.q 6 (.e 7 .done)))))))) [7] (Mod (fun b => b = w1.heap.size) w2) (by kernel_rfl) (by kernel_rfl) (by kernel_rfl) (by kernel_rfl) (by kernel_rfl) (New.drew _).mod ?_
  refine Exists.intro x.a (And.intro (fun w'' hw => cellB (hw.keep hb12 (by omega)) rfl) ?_)
  refine Exists.intro x.b (And.intro (fun w'' hw => cellB (hw.keep hb12 (by omega)) rfl) ?_)
  have hb2d := (New.drew w2).blk hb2
  refine And.intro ⟨_, cellB hb2d rfl⟩ (And.intro (fzB hb2d _) (force_ ?_))
  refine stK hb2d (show (3 : Nat) < 5 by decide) ?_
  intro w3 hb3 m3 s3
  have m23 : Mod (fun b => b = w1.heap.size) w2 w3 := Mod.trans (New.drew w2).mod m3 (fun _ _ h => h)
  refine Exists.intro _ (And.intro (fun _ h => h) (And.intro m23 ?_))
  refine And.intro ⟨_, cellB hb3 rfl⟩ (And.intro (fzB hb3 _) (force_ ?_))
  refine stK hb3 (show (4 : Nat) < 5 by decide) ?_
  intro w4 hb4 m4 s4
  have m24 : Mod (fun b => b = w1.heap.size) w2 w4 := Mod.trans m23 m4 (fun _ _ h => h)
  have hb14 := m24.keep hb12 (by omega)
  have k4 := k2.st m24 (by omega)
  have hb4' : w4.heap[w1.heap.size]? = some (.cells (entC ⟨x.tag, [], 0, x.a, x.b⟩).toArray _ (0, 0)) := hb4
  refine Exists.intro x.tag (And.intro (cellB hb14 rfl) ?_)
  refine if_p (fun t9 => ?_) (fun t9 => ?_)
  · have hD : demand l i x = (decide (tagAt l x.a = 7) && decide (tagAt l x.b = 12)) := by unfold demand; rw [if_neg t1, if_neg t3, if_neg t5, if_neg t7, if_pos (.inl t9)]
    refine if_p (fun _ => ?_) (fun h9 => absurd t9 h9)
    refine loadN_row (vs := entC x) (rowB hb14) rfl ?_
    refine loadN_row (vs := entC ⟨x.tag, [], 0, x.a, x.b⟩) (rowB hb4') rfl ?_
    refine ent_eql rfl rfl rfl ?_
    refine if_p (fun he => ?_) (fun hne => ?_)
    · rw [yes _ _ hB hD he]
      refine Exists.intro x.a (And.intro (cellB hb14 rfl) ?_)
      refine call_ (tag_ok (some a) n c l x.a w4 (h.new k4)) ?_
      rintro e w5 ⟨rfl, rfl⟩
      refine ⟨_, rfl, ?_⟩
      refine if_p (fun ha => ?_) (fun ha => ?_)
      · refine Exists.intro x.b (And.intro (cellB hb14 rfl) ?_)
        refine call_ (tag_ok (some a) n c l x.b w5 (h.new k4)) ?_
        rintro e w6 ⟨rfl, rfl⟩
        refine ⟨_, rfl, ?_⟩
        rw [decide_eq_true ha, Bool.true_and]
        exact ⟨rfl, k4⟩
      · rw [decide_eq_false ha, Bool.false_and]
        exact ⟨rfl, k4⟩
    · rw [no _ _ hB hD hne]
      exact ⟨rfl, k4⟩
  refine if_p (fun t10 => ?_) (fun t10 => ?_)
  · have hD : demand l i x = (decide (tagAt l x.a = 7) && decide (tagAt l x.b = 12)) := by unfold demand; rw [if_neg t1, if_neg t3, if_neg t5, if_neg t7, if_pos (.inr t10)]
    refine loadN_row (vs := entC x) (rowB hb14) rfl ?_
    refine loadN_row (vs := entC ⟨x.tag, [], 0, x.a, x.b⟩) (rowB hb4') rfl ?_
    refine ent_eql rfl rfl rfl ?_
    refine if_p (fun he => ?_) (fun hne => ?_)
    · rw [yes _ _ hB hD he]
      refine Exists.intro x.a (And.intro (cellB hb14 rfl) ?_)
      refine call_ (tag_ok (some a) n c l x.a w4 (h.new k4)) ?_
      rintro e w5 ⟨rfl, rfl⟩
      refine ⟨_, rfl, ?_⟩
      refine if_p (fun ha => ?_) (fun ha => ?_)
      · refine Exists.intro x.b (And.intro (cellB hb14 rfl) ?_)
        refine call_ (tag_ok (some a) n c l x.b w5 (h.new k4)) ?_
        rintro e w6 ⟨rfl, rfl⟩
        refine ⟨_, rfl, ?_⟩
        rw [decide_eq_true ha, Bool.true_and]
        exact ⟨rfl, k4⟩
      · rw [decide_eq_false ha, Bool.false_and]
        exact ⟨rfl, k4⟩
    · rw [no _ _ hB hD hne]
      exact ⟨rfl, k4⟩
  refine if_p (fun t12 => ?_) (fun t12 => ?_)
  · have hD : demand l i x = (decide (tagAt l x.a = 1) && decide (tagAt l x.b = 1)) := by unfold demand; rw [if_neg t1, if_neg t3, if_neg t5, if_neg t7, if_neg (fun h => h.elim t9 t10), if_pos t12]
    refine loadN_row (vs := entC x) (rowB hb14) rfl ?_
    refine loadN_row (vs := entC ⟨x.tag, [], 0, x.a, x.b⟩) (rowB hb4') rfl ?_
    refine ent_eql rfl rfl rfl ?_
    refine if_p (fun he => ?_) (fun hne => ?_)
    · rw [yes _ _ hB hD he]
      refine Exists.intro x.a (And.intro (cellB hb14 rfl) ?_)
      refine call_ (tag_ok (some a) n c l x.a w4 (h.new k4)) ?_
      rintro e w5 ⟨rfl, rfl⟩
      refine ⟨_, rfl, ?_⟩
      refine if_p (fun ha => ?_) (fun ha => ?_)
      · refine Exists.intro x.b (And.intro (cellB hb14 rfl) ?_)
        refine call_ (tag_ok (some a) n c l x.b w5 (h.new k4)) ?_
        rintro e w6 ⟨rfl, rfl⟩
        refine ⟨_, rfl, ?_⟩
        rw [decide_eq_true ha, Bool.true_and]
        exact ⟨rfl, k4⟩
      · rw [decide_eq_false ha, Bool.false_and]
        exact ⟨rfl, k4⟩
    · rw [no _ _ hB hD hne]
      exact ⟨rfl, k4⟩
  have hD : demand l i x = false := by unfold demand; rw [if_neg t1, if_neg t3, if_neg t5, if_neg t7, if_neg (fun h => h.elim t9 t10), if_neg t12]
  rw [hfit _ _ hB hD, Bool.and_false]
  exact ⟨rfl, k4⟩
end Go.Proofs.YtdcaafldnbcdkaaGreatDoor.Pool

/-! ### PWalk3 -/
namespace Go.Proofs.YtdcaafldnbcdkaaGreatDoor.Pool
open Go Go.Proofs.YtdcaafldnbcdkaaGreatDoor Go.Proofs.YtdcaafldnbcdkaaGreatDoor.Eng Go.Proofs
set_option maxRecDepth 10000

def chk (l : List Ent) : Int := if okB l = true then 0 else 70
theorem chk_good {l : List Ent} (h : OkPool l) : chk l = 0 := if_pos ((okB_iff l).2 h)
theorem chk_bad {l : List Ent} (h : ¬ OkPool l) : chk l = 70 := if_neg fun o => h ((okB_iff l).1 o)
theorem Check_ok (A : Option Addr) (n c : Nat) (l : List Ent) (w : World) (h : Pl w A n l) :
    Calls Tryz.prog 38 #[.slice A n c] w fun e w' => e = .returned (.int .i64 (chk l)) ∧ New w w' := by
  refine enter ok Tryz.func38 rfl rfl rfl ?_
  have hlen := h.len
  have htop := h.top
  refine if_p (fun h0 => ?_) (fun h0 => ?_)
  · replace h0 : (n : Int) = 0 := h0
    rw [chk_bad fun o => by have := o.1.pos; omega]
    exact ⟨rfl, New.refl _⟩
  replace h0 : ¬ (n : Int) = 0 := h0
  refine if_p (fun h1 => ?_) (fun h1 => ?_)
  · replace h1 : (1024 : Int) < n := h1
    rw [chk_bad fun o => by have := o.2; omega]
    exact ⟨rfl, New.refl _⟩
  replace h1 : ¬ (1024 : Int) < n := h1
  obtain ⟨a, rfl, _, hc⟩ := h.at_ (i := 0) (by omega)
  refine And.intro (by decide) (And.intro (by omega) ?_)
  refine loadN_row (vs := entC (at_ l (0 : Nat))) hc rfl ?_
  refine ent_neq (q := e0) rfl rfl rfl ?_
  refine if_n (fun hne => ?_) (fun he => ?_)
  · rw [chk_bad fun o => hne o.1.head]
    exact ⟨rfl, New.refl _⟩
  replace he : at_ l 0 = e0 := he
  refine den_loop (σ := Nat) (fun i => [(3, .slice (some a) n c), (4, .int .i64 i)])
    (fun m i wl => 1 ≤ i ∧ i ≤ n ∧ m = n - i ∧ (∀ j, 1 ≤ j → j < i → (at_ l (j - 1 : Nat)).tag = 5 ∨ fits l j = true) ∧ New w wl) (n - 1) 1 ⟨rfl, rfl, trivial⟩ ⟨by omega, by omega, rfl, fun j h1 h2 => by omega, New.refl _⟩ ?_
  rintro m i wl fr0 ⟨hi1, hin, rfl, hall, nl⟩
  refine if_p (fun hlt => ?_) (fun hge => ?_)
  rotate_left
  · replace hge : ¬ (i : Int) < n := hge
    rw [chk_good ⟨⟨by omega, he, fun j h1 h2 => hall j h1 (by omega)⟩, by omega⟩]
    exact ⟨rfl, nl⟩
  replace hlt : (i : Int) < n := hlt
  have e1 : IntKind.i64.wrap ((i : Int) - 1) = ((i - 1 : Nat) : Int) := by rw [wrap_i64 (by omega) (by omega)]; omega
  obtain ⟨a', ha', _, hc1⟩ := h.at_ (i := i - 1) (by omega)
  cases ha'
  refine And.intro (by rw [e1]; omega) (And.intro (by rw [e1]; omega) ?_)
  refine Exists.intro (at_ l (i - 1 : Nat)).tag (And.intro (by rw [e1, Int.toNat_natCast]; exact nl.cell (hc1 0 _ rfl)) ?_)
  have step : Value.int .i64 (IntKind.i64.wrap ((i : Int) + 1)) = .int .i64 ((i + 1 : Nat) : Int) := by
    rw [wrap_i64 (by omega) (by omega)]
    rfl
  refine if_p (fun h5 => ?_) (fun h5 => ?_)
  · refine ⟨n - (i + 1), i + 1, by omega, ⟨rfl, step, trivial⟩, by omega, by omega, rfl, fun j hj1 hj2 => ?_, nl⟩
    rcases Nat.lt_or_ge j i with h' | h'
    · exact hall j hj1 h'
    · have : j = i := by omega
      subst this
      exact .inl h5
  refine call_ (fits_ok (some a) n c l i wl (h.new nl) (by omega)) ?_
  rintro e w2 ⟨rfl, n2⟩
  refine ⟨_, rfl, ?_⟩
  have k2 := nl.trans n2
  cases hf : fits l i with
  | false =>
    rw [chk_bad fun o => by
      rcases o.1.each i hi1 (by omega) with h' | h'
      · exact h5 h'
      · rw [hf] at h'; cases h']
    exact ⟨rfl, k2⟩
  | true =>
    refine ⟨n - (i + 1), i + 1, by omega, ⟨rfl, step, trivial⟩, by omega, by omega, rfl, fun j hj1 hj2 => ?_, k2⟩
    rcases Nat.lt_or_ge j i with h' | h'
    · exact hall j hj1 h'
    · have : j = i := by omega
      subst this
      exact .inr hf
theorem text_ok (s : List UInt8) (w : World) (hs : s.length ≤ 9223372036854775807) :
    Calls Tryz.prog 95 #[strV s] w fun e w' => e = .returned (.bool (rightT s)) ∧ w' = w := by
  refine enter ok Tryz.func95 rfl rfl rfl ?_
  refine den_loop (σ := Nat) (fun i => [(0, strV s), (3, .int .i64 i)]) (fun m i wl => i ≤ s.length ∧ m = s.length - i ∧ (∀ j (h : j < s.length), j < i → okB1 s[j] = true) ∧ wl = w) s.length 0 ⟨rfl, rfl, trivial⟩ ⟨Nat.zero_le _, rfl, fun j _ h => absurd h (Nat.not_lt_zero _), rfl⟩ ?_
  rintro m i wl fr0 ⟨hi, rfl, hall, rfl⟩
  refine if_p (fun hlt => ?_) (fun hge => ?_)
  · replace hlt : (i : Int) < (ByteArray.mk s.toArray).size := hlt
    have hl : i < s.length := by rw [size_str] at hlt; omega
    have hx : (i : Int).toNat < (ByteArray.mk s.toArray).size := by rw [size_str, Int.toNat_natCast]; exact hl
    have hg : (ByteArray.mk s.toArray)[(i : Int).toNat]'hx = s[i] := by
      simp only [Int.toNat_natCast]
      exact get_str s i _ hl
    have bad : okB1 s[i] = false → rightT s = false := fun hb => by
      have : s.all okB1 = false := List.all_eq_false.2 ⟨_, List.getElem_mem hl, by rw [hb]; decide⟩
      show (decide (s.length ≤ 255) && s.all okB1) = false
      rw [this, Bool.and_false]
    refine And.intro (by omega) (Exists.intro hx ?_)
    rw [hg]
    refine if_p (fun h33 => ?_) (fun h33 => ?_)
    · rw [bad (by unfold okB1; rw [decide_eq_false (p := 33 ≤ s[i].toNat) (by omega), Bool.false_and])]
      exact ⟨rfl, rfl⟩
    refine And.intro (by omega) (Exists.intro hx ?_)
    rw [hg]
    refine if_p (fun h126 => ?_) (fun h126 => ?_)
    · rw [bad (by unfold okB1; rw [decide_eq_false (p := s[i].toNat ≤ 126) (by omega), Bool.and_false])]
      exact ⟨rfl, rfl⟩
    refine ⟨s.length - (i + 1), i + 1, by omega, ⟨rfl, ?_, trivial⟩, by omega, rfl, fun j hj hjp => ?_, rfl⟩
    · show Value.int .i64 (IntKind.i64.wrap _) = _
      rw [wrap_i64 (by omega) (by omega)]
      rfl
    · rcases Nat.lt_or_ge j i with h' | h'
      · exact hall j hj h'
      · have : j = i := by omega
        subst this
        unfold okB1
        rw [decide_eq_true (p := 33 ≤ s[j].toNat) (by omega), decide_eq_true (p := s[j].toNat ≤ 126) (by omega)]
        rfl
  · replace hge : ¬ (i : Int) < (ByteArray.mk s.toArray).size := hge
    rw [size_str] at hge
    refine ⟨?_, rfl⟩
    have : s.all okB1 = true := List.all_eq_true.2 fun x hx => by
      obtain ⟨j, hj, rfl⟩ := List.getElem_of_mem hx
      exact hall j hj (by omega)
    show Ending.returned (.bool (decide (((ByteArray.mk s.toArray).size : Int) ≤ 255))) = .returned (.bool (decide (s.length ≤ 255) && s.all okB1))
    rw [this, Bool.and_true, size_str]
    congr 2
    by_cases h : s.length ≤ 255
    · rw [decide_eq_true h, decide_eq_true (by omega)]
    · rw [decide_eq_false h, decide_eq_false (by omega)]
end Go.Proofs.YtdcaafldnbcdkaaGreatDoor.Pool

/-! ### PWalk4 -/
namespace Go.Proofs.YtdcaafldnbcdkaaGreatDoor.Pool
open Go Go.Proofs.YtdcaafldnbcdkaaGreatDoor Go.Proofs.YtdcaafldnbcdkaaGreatDoor.Eng Go.Proofs
set_option maxRecDepth 10000

theorem fits_parts {l : List Ent} {i : Nat} {x B : Ent} {D : Bool} (hx : at_ l i = x) (h1 : bare x = B) (h2 : demand l i x = D) : fits l i = (D && decide (x = B)) := by
  unfold fits
  rw [hx, h2, h1, Bool.and_comm]
theorem RCheck_ok (A : Option Addr) (n c : Nat) (l : List Ent) (w : World) (h : Pl w A n l) :
    Calls Tryz.prog 65 #[.slice A n c] w fun e w' => e = .returned (.int .i64 (chk l)) ∧ New w w' := by
  refine enter ok Tryz.func65 rfl rfl rfl ?_
  have hlen := h.len
  have htop := h.top
  refine if_p (fun h0 => ?_) (fun h0 => ?_)
  · replace h0 : (n : Int) < 1 := h0
    rw [chk_bad fun o => by have := o.1.pos; omega]
    exact ⟨rfl, New.refl _⟩
  replace h0 : ¬ (n : Int) < 1 := h0
  refine if_p (fun h1 => ?_) (fun h1 => ?_)
  · replace h1 : (1024 : Int) < n := h1
    rw [chk_bad fun o => by have := o.2; omega]
    exact ⟨rfl, New.refl _⟩
  replace h1 : ¬ (1024 : Int) < n := h1
  obtain ⟨a, rfl, _, hc⟩ := h.at_ (i := 0) (by omega)
  refine And.intro (by decide) (And.intro (by omega) ?_)
  refine loadN_row (vs := entC (at_ l (0 : Nat))) hc rfl ?_
  refine ent_neq (q := e0) rfl rfl rfl ?_
  refine if_n (fun hne => ?_) (fun he => ?_)
  · rw [chk_bad fun o => hne o.1.head]
    exact ⟨rfl, New.refl _⟩
  replace he : at_ l 0 = e0 := he
  refine den_loop (σ := Nat) (fun i => [(0, .slice (some a) n c), (3, .int .i64 i)])
    (fun m i wl => 1 ≤ i ∧ i ≤ n ∧ m = n - i ∧ (i < n → (at_ l (i - 1 : Nat)).tag ≠ 5) ∧ (∀ j, 1 ≤ j → j < i → (at_ l (j - 1 : Nat)).tag = 5 ∨ fits l j = true) ∧ New w wl) (n - 1) 1 ⟨rfl, rfl, trivial⟩
    ⟨by omega, by omega, rfl, fun _ => by show (at_ l (0 : Nat)).tag ≠ 5; rw [show at_ l (0 : Nat) = e0 from he]; decide, fun j h1 h2 => by omega, New.refl _⟩ ?_
  rintro m i wl fr0 ⟨hi1, hin, rfl, hprev, hall, nl⟩
  refine if_p (fun hlt => ?_) (fun hge => ?_)
  rotate_left
  · replace hge : ¬ (i : Int) < n := hge
    rw [chk_good ⟨⟨by omega, he, fun j h1 h2 => hall j h1 (by omega)⟩, by omega⟩]
    exact ⟨rfl, nl⟩
  replace hlt : (i : Int) < n := hlt
  have hprev := hprev (by omega)
  obtain ⟨a', ha', hok, hci⟩ := h.at_ (i := i) (by omega)
  cases ha'
  have e1 : IntKind.i64.wrap ((i : Int) + 1) = ((i + 1 : Nat) : Int) := by rw [wrap_i64 (by omega) (by omega)]; omega
  refine And.intro (by omega) (And.intro hlt ?_)
  refine loadN_row (vs := entC (at_ l i)) (fun j u hu => by rw [Int.toNat_natCast]; exact nl.cell (hci j u hu)) rfl ?_
  have hparts := fun B D => fits_parts (l := l) (i := i) (x := at_ l i) (B := B) (D := D) rfl
  have htag5 : (at_ l i).tag = 5 → fits l i = true → i + 1 < l.length ∧ at_ l (i + 1 : Nat) = e0 := fun h1 h2 => fits_long h2 h1
  have bad : fits l i = false → ¬ OkPool l := fun hf o => by
    rcases o.1.each i hi1 (by omega) with h' | h'
    · exact hprev h'
    · rw [hf] at h'; cases h'
  have hat : ∀ t : Int, (at_ l i).tag = t → (at_ l (i + 1 - 1 : Nat)).tag = t := fun t h => by rw [show i + 1 - 1 = i by omega]; exact h
  have hat0 : at_ l (i + 1 : Nat) = e0 → (at_ l (i + 2 - 1 : Nat)).tag = 0 := fun h => by rw [show i + 2 - 1 = i + 1 by omega, h]; rfl
  have hin2 : (at_ l i).tag = 5 → fits l i = true → i + 2 ≤ n := fun h1 h2 => by have := (htag5 h1 h2).1; omega
  generalize at_ l i = x at hok hci hparts htag5 hat hin2
  refine And.intro rfl ?_
  refine storeNew (vs := entC x) (arr := entZ) rfl (entC_one x) ?_
  intro w1 hb1 n1 s1
  refine Exists.intro x.tag (And.intro (cellB hb1 rfl) ?_)
  refine And.intro rfl ?_
  refine storeNew (vs := entC ⟨x.tag, [], 0, 0, 0⟩) (arr := entZ) rfl (entC_one _) ?_
  intro w2 hb2 n2 s2
  have k2 := n1.trans n2
  have hb12 := n2.blk hb1
  have hsz := nl.size
  refine nil_ (thenF_ (seq_assign ?_))
  -- behind the switch: where it goes on, is it so, what it must be
  refine seq_cut (σ := Bool × Ent × Nat) (fun t => [(0, .slice (some a) n c), (3, .int .i64 t.2.2), (4, .pointer (some ⟨wl.heap.size, 0, none⟩)), (5, .pointer (some ⟨w1.heap.size, 0, none⟩)), (6, .bool t.1)])
    (fun t w3 => fits l i = (t.1 && decide (x = t.2.1)) ∧ (t.1 = true → t.2.2 = if x.tag = 5 then i + 1 else i) ∧ w3.heap[wl.heap.size]? = some (.cells (entC x).toArray 85 (0, 0)) ∧ w3.heap[w1.heap.size]? = some (.cells (entC t.2.1).toArray 85 (0, 0)) ∧ New wl w3) ?_ ?_
  · rintro ⟨okv, B, i'⟩ w3 fr1 ⟨hf, hi', hb3, hb3b, k3⟩
    dsimp only at hf hi' hb3b
    have kk := nl.trans k3
    cases okv with
    | false =>
      rw [Bool.false_and] at hf
      rw [chk_bad (bad hf)]
      exact ⟨rfl, kk⟩
    | true =>
      rw [Bool.true_and] at hf
      refine loadN_row (vs := entC x) (rowB hb3) rfl ?_
      refine loadN_row (vs := entC B) (rowB hb3b) rfl ?_
      refine ent_neq rfl rfl rfl ?_
      refine if_n (fun hne => ?_) (fun heq => ?_)
      · rw [decide_eq_false hne] at hf
        rw [chk_bad (bad hf)]
        exact ⟨rfl, kk⟩
      · replace heq : x = B := heq
        rw [decide_eq_true heq] at hf
        have hi' := hi' rfl
        have hall' : ∀ j, 1 ≤ j → j < i + 1 → (at_ l (j - 1 : Nat)).tag = 5 ∨ fits l j = true := fun j hj1 hj2 => by
          rcases Nat.lt_or_ge j i with h' | h'
          · exact hall j hj1 h'
          · have : j = i := by omega
            subst this
            exact .inr hf
        by_cases h5 : x.tag = 5
        · rw [if_pos h5] at hi'
          subst hi'
          have e2 : Value.int .i64 (IntKind.i64.wrap (((i + 1 : Nat) : Int) + 1)) = .int .i64 ((i + 2 : Nat) : Int) := by
            have := hin2 h5 hf
            rw [wrap_i64 (by omega) (by omega)]
            rfl
          have h6 := htag5 h5 hf
          refine ⟨n - (i + 2), i + 2, by omega, ⟨rfl, e2, trivial⟩, by omega, hin2 h5 hf, rfl, fun _ => by rw [hat0 h6.2]; decide, fun j hj1 hj2 => ?_, kk⟩
          rcases Nat.lt_or_ge j (i + 1) with h' | h'
          · exact hall' j hj1 h'
          · have : j = i + 1 := by omega
            subst this
            exact .inl (hat 5 h5)
        · rw [if_neg h5] at hi'
          have e2 : Value.int .i64 (IntKind.i64.wrap ((i' : Int) + 1)) = .int .i64 ((i + 1 : Nat) : Int) := by rw [hi', e1]
          exact ⟨n - (i + 1), i + 1, by omega, ⟨rfl, e2, trivial⟩, by omega, by omega, rfl, fun _ => fun h' => h5 ((hat _ rfl).symm.trans h'), hall', kk⟩
  intro K hK
  refine Exists.intro x.tag (And.intro (cellB hb12 rfl) ?_)
  refine if_p (fun ht => ?_) (fun t1 => ?_)
  · have hB : bare x = ⟨x.tag, x.text, 0, 0, 0⟩ := by unfold bare; rw [if_pos ht]
    have hD : demand l i x = rightT x.text := by unfold demand; rw [if_pos ht]
    refine Exists.intro (⟨x.text.toArray⟩ : ByteArray) (And.intro (cellB hb12 rfl) ?_)
    refine And.intro ⟨_, cellB hb2 rfl⟩ (And.intro (fzB hb2 _) (force_ ?_))
    refine stK hb2 (show (1 : Nat) < 5 by decide) ?_
    intro w3 hb3 m3 s3
    have hb13 := m3.keep hb12 (by omega)
    have k3 := k2.st m3 (by omega)
    have hb3' : w3.heap[w1.heap.size]? = some (.cells (entC ⟨x.tag, x.text, 0, 0, 0⟩).toArray 85 (0, 0)) := hb3
    refine Exists.intro (⟨x.text.toArray⟩ : ByteArray) (And.intro (cellB hb13 rfl) ?_)
    refine call_ (text_ok x.text w3 hok.text) ?_
    rintro e w4 ⟨rfl, rfl⟩
    refine ⟨_, rfl, ?_⟩
    exact hK (_, _, i) _ _ ⟨rfl, rfl, rfl, rfl, rfl, trivial⟩ ⟨hparts _ _ hB hD, fun _ => (if_neg (by rw [ht]; decide)).symm, hb13, hb3', k3⟩
  replace t1 : ¬ x.tag = 1 := t1
  refine if_p (fun ht => ?_) (fun t3 => ?_)
  · have hB : bare x = ⟨x.tag, [], x.n, 0, 0⟩ := by unfold bare; rw [if_neg t1, if_pos (.inl ht)]
    have hD : demand l i x = small x.n := by unfold demand; rw [if_neg t1, if_pos ht]
    unfold small at hD
    refine Exists.intro x.n (And.intro (cellB hb12 rfl) ?_)
    refine And.intro ⟨_, cellB hb2 rfl⟩ (And.intro (fzB hb2 _) (force_ ?_))
    refine stK hb2 (show (2 : Nat) < 5 by decide) ?_
    intro w3 hb3 m3 s3
    have hb13 := m3.keep hb12 (by omega)
    have k3 := k2.st m3 (by omega)
    have hb3' : w3.heap[w1.heap.size]? = some (.cells (entC ⟨x.tag, [], x.n, 0, 0⟩).toArray 85 (0, 0)) := hb3
    have hn5 : ¬ x.tag = 5 := by rw [ht]; decide
    refine Exists.intro x.n (And.intro (cellB hb13 rfl) ?_)
    refine if_p (fun hlo => ?_) (fun hlo => ?_)
    · refine Exists.intro x.n (And.intro (cellB hb13 rfl) ?_)
      rw [decide_eq_true hlo, Bool.true_and] at hD
      exact hK (_, _, i) _ _ ⟨rfl, rfl, rfl, rfl, rfl, trivial⟩ ⟨hparts _ _ hB hD, fun _ => (if_neg hn5).symm, hb13, hb3', k3⟩
    · rw [decide_eq_false hlo, Bool.false_and] at hD
      exact hK (_, _, i) _ _ ⟨rfl, rfl, rfl, rfl, rfl, trivial⟩ ⟨hparts _ _ hB hD, fun _ => (if_neg hn5).symm, hb13, hb3', k3⟩
  replace t3 : ¬ x.tag = 3 := t3
  refine if_p (fun ht => ?_) (fun t5 => ?_)
  · have hB : bare x = ⟨x.tag, [], x.n, 0, 0⟩ := by unfold bare; rw [if_neg t1, if_pos (.inr ht)]
    have hD : demand l i x = (decide (i + 1 < l.length) && decide (at_ l (i + 1 : Nat) = e0)) := by unfold demand; rw [if_neg t1, if_neg t3, if_pos ht]
    refine Exists.intro x.n (And.intro (cellB hb12 rfl) ?_)
    refine And.intro ⟨_, cellB hb2 rfl⟩ (And.intro (fzB hb2 _) (force_ ?_))
    refine stK hb2 (show (2 : Nat) < 5 by decide) ?_
    intro w3 hb3 m3 s3
    have hb13 := m3.keep hb12 (by omega)
    have k3 := k2.st m3 (by omega)
    have hb3' : w3.heap[w1.heap.size]? = some (.cells (entC ⟨x.tag, [], x.n, 0, 0⟩).toArray 85 (0, 0)) := hb3
    have e3 : Value.int .i64 (IntKind.i64.wrap ((i : Int) + 1)) = .int .i64 ((i + 1 : Nat) : Int) := by rw [e1]
    refine if_p (fun hl => ?_) (fun hge => ?_)
    · rw [e1] at hl
      replace hl : ((i + 1 : Nat) : Int) < n := hl
      obtain ⟨a', ha', _, hc'⟩ := h.at_ (i := i + 1) (by omega)
      cases ha'
      refine And.intro (by rw [e1]; omega) (And.intro (by rw [e1]; omega) ?_)
      refine loadN_row (vs := entC (at_ l (i + 1 : Nat))) (fun j u hu => by rw [e1, Int.toNat_natCast]; exact (nl.trans k3).cell (hc' j u hu)) rfl ?_
      refine ent_eql (q := e0) rfl rfl rfl ?_
      rw [decide_eq_true (p := i + 1 < l.length) (by omega), Bool.true_and] at hD
      exact hK (_, _, i + 1) _ _ ⟨rfl, e3, rfl, rfl, rfl, trivial⟩ ⟨hparts _ _ hB hD, fun _ => (if_pos ht).symm, hb13, hb3', k3⟩
    · rw [e1] at hge
      replace hge : ¬ ((i + 1 : Nat) : Int) < n := hge
      rw [decide_eq_false (p := i + 1 < l.length) (by omega), Bool.false_and] at hD
      exact hK (_, _, i + 1) _ _ ⟨rfl, e3, rfl, rfl, rfl, trivial⟩ ⟨hparts _ _ hB hD, fun _ => (if_pos ht).symm, hb13, hb3', k3⟩
  replace t5 : ¬ x.tag = 5 := t5
  refine if_p (fun ht => ?_) (fun t7 => ?_)
  · have hB : bare x = ⟨x.tag, [], 0, x.a, 0⟩ := by unfold bare; rw [if_neg t1, if_neg (by omega), if_pos ht]
    have hD : demand l i x = decide (tagAt l x.a = 1) := by unfold demand; rw [if_neg t1, if_neg t3, if_neg t5, if_pos ht]
    refine Exists.intro x.a (And.intro (cellB hb12 rfl) ?_)
    refine And.intro ⟨_, cellB hb2 rfl⟩ (And.intro (fzB hb2 _) (force_ ?_))
    refine stK hb2 (show (3 : Nat) < 5 by decide) ?_
    intro w3 hb3 m3 s3
    have hb13 := m3.keep hb12 (by omega)
    have k3 := k2.st m3 (by omega)
    have hb3' : w3.heap[w1.heap.size]? = some (.cells (entC ⟨x.tag, [], 0, x.a, 0⟩).toArray 85 (0, 0)) := hb3
    refine Exists.intro x.a (And.intro (cellB hb13 rfl) ?_)
    refine call_ (rtag_ok (some a) n c l x.a w3 (h.new (nl.trans k3))) ?_
    rintro e w4 ⟨rfl, rfl⟩
    refine ⟨_, rfl, ?_⟩
    exact hK (_, _, i) _ _ ⟨rfl, rfl, rfl, rfl, rfl, trivial⟩ ⟨hparts _ _ hB hD, fun _ => (if_neg t5).symm, hb13, hb3', k3⟩
  replace t7 : ¬ x.tag = 7 := t7
  have hB : bare x = ⟨x.tag, [], 0, x.a, x.b⟩ := by unfold bare; rw [if_neg t1, if_neg (by omega), if_neg t7]
  refine if_p (fun t12 => ?_) (fun t12 => ?_)
  · have hD : demand l i x = (decide (tagAt l x.a = 1) && decide (tagAt l x.b = 1)) := by unfold demand; rw [if_neg t1, if_neg t3, if_neg t5, if_neg t7, if_neg (by rw [t12]; decide), if_pos t12]
    refine draw_ (w := w2) ok (.q 0 (.q 1 (.q 2 (.q 3 (.q 4 (.e 5 (.q 6 (.e 7 .done)))))))) [7] (Mod (fun b => b = w1.heap.size) w2) (by kernel_rfl) (by kernel_rfl) (by kernel_rfl) (by kernel_rfl) (by kernel_rfl) (New.drew _).mod ?_
    refine Exists.intro x.a (And.intro (fun w'' hw => cellB (hw.keep hb12 (by omega)) rfl) ?_)
    refine Exists.intro x.b (And.intro (fun w'' hw => cellB (hw.keep hb12 (by omega)) rfl) ?_)
    have hb2d := (New.drew w2).blk hb2
    refine And.intro ⟨_, cellB hb2d rfl⟩ (And.intro (fzB hb2d _) (force_ ?_))
    refine stK hb2d (show (3 : Nat) < 5 by decide) ?_
    intro w3 hb3 m3 s3
    have m23 : Mod (fun b => b = w1.heap.size) w2 w3 := Mod.trans (New.drew w2).mod m3 (fun _ _ h => h)
    refine Exists.intro _ (And.intro (fun _ h => h) (And.intro m23 ?_))
    refine And.intro ⟨_, cellB hb3 rfl⟩ (And.intro (fzB hb3 _) (force_ ?_))
    refine stK hb3 (show (4 : Nat) < 5 by decide) ?_
    intro w4 hb4 m4 s4
    have m24 : Mod (fun b => b = w1.heap.size) w2 w4 := Mod.trans m23 m4 (fun _ _ h => h)
    have hb14 := m24.keep hb12 (by omega)
    have k4 := k2.st m24 (by omega)
    have hb4' : w4.heap[w1.heap.size]? = some (.cells (entC ⟨x.tag, [], 0, x.a, x.b⟩).toArray 85 (0, 0)) := hb4
    refine Exists.intro x.a (And.intro (cellB hb14 rfl) ?_)
    refine call_ (rtag_ok (some a) n c l x.a w4 (h.new (nl.trans k4))) ?_
    rintro e w5 ⟨rfl, rfl⟩
    refine ⟨_, rfl, ?_⟩
    refine if_p (fun ha => ?_) (fun ha => ?_)
    · refine Exists.intro x.b (And.intro (cellB hb14 rfl) ?_)
      refine call_ (rtag_ok (some a) n c l x.b w5 (h.new (nl.trans k4))) ?_
      rintro e w6 ⟨rfl, rfl⟩
      refine ⟨_, rfl, ?_⟩
      rw [decide_eq_true ha, Bool.true_and] at hD
      exact hK (_, _, i) _ _ ⟨rfl, rfl, rfl, rfl, rfl, trivial⟩ ⟨hparts _ _ hB hD, fun _ => (if_neg t5).symm, hb14, hb4', k4⟩
    · rw [decide_eq_false ha, Bool.false_and] at hD
      exact hK (_, _, i) _ _ ⟨rfl, rfl, rfl, rfl, rfl, trivial⟩ ⟨hparts _ _ hB hD, fun _ => (if_neg t5).symm, hb14, hb4', k4⟩
  replace t12 : ¬ x.tag = 12 := t12
  refine if_p (fun t9 => ?_) (fun t9 => ?_)
  · have hD : demand l i x = (decide (tagAt l x.a = 7) && decide (tagAt l x.b = 12)) := by unfold demand; rw [if_neg t1, if_neg t3, if_neg t5, if_neg t7, if_pos (.inl t9)]
    refine if_p (fun _ => ?_) (fun h9 => absurd t9 h9)
    refine draw_ (w := w2) ok (.q 0 (.q 1 (.q 2 (.q 3 (.q 4 (.e 5 (.q 6 (.e 7 .done)))))))) [7] (Mod (fun b => b = w1.heap.size) w2) (by kernel_rfl) (by kernel_rfl) (by kernel_rfl) (by kernel_rfl) (by kernel_rfl) (New.drew _).mod ?_
    refine Exists.intro x.a (And.intro (fun w'' hw => cellB (hw.keep hb12 (by omega)) rfl) ?_)
    refine Exists.intro x.b (And.intro (fun w'' hw => cellB (hw.keep hb12 (by omega)) rfl) ?_)
    have hb2d := (New.drew w2).blk hb2
    refine And.intro ⟨_, cellB hb2d rfl⟩ (And.intro (fzB hb2d _) (force_ ?_))
    refine stK hb2d (show (3 : Nat) < 5 by decide) ?_
    intro w3 hb3 m3 s3
    have m23 : Mod (fun b => b = w1.heap.size) w2 w3 := Mod.trans (New.drew w2).mod m3 (fun _ _ h => h)
    refine Exists.intro _ (And.intro (fun _ h => h) (And.intro m23 ?_))
    refine And.intro ⟨_, cellB hb3 rfl⟩ (And.intro (fzB hb3 _) (force_ ?_))
    refine stK hb3 (show (4 : Nat) < 5 by decide) ?_
    intro w4 hb4 m4 s4
    have m24 : Mod (fun b => b = w1.heap.size) w2 w4 := Mod.trans m23 m4 (fun _ _ h => h)
    have hb14 := m24.keep hb12 (by omega)
    have k4 := k2.st m24 (by omega)
    have hb4' : w4.heap[w1.heap.size]? = some (.cells (entC ⟨x.tag, [], 0, x.a, x.b⟩).toArray 85 (0, 0)) := hb4
    refine Exists.intro x.a (And.intro (cellB hb14 rfl) ?_)
    refine call_ (rtag_ok (some a) n c l x.a w4 (h.new (nl.trans k4))) ?_
    rintro e w5 ⟨rfl, rfl⟩
    refine ⟨_, rfl, ?_⟩
    refine if_p (fun ha => ?_) (fun ha => ?_)
    · refine Exists.intro x.b (And.intro (cellB hb14 rfl) ?_)
      refine call_ (rtag_ok (some a) n c l x.b w5 (h.new (nl.trans k4))) ?_
      rintro e w6 ⟨rfl, rfl⟩
      refine ⟨_, rfl, ?_⟩
      rw [decide_eq_true ha, Bool.true_and] at hD
      exact hK (_, _, i) _ _ ⟨rfl, rfl, rfl, rfl, rfl, trivial⟩ ⟨hparts _ _ hB hD, fun _ => (if_neg t5).symm, hb14, hb4', k4⟩
    · rw [decide_eq_false ha, Bool.false_and] at hD
      exact hK (_, _, i) _ _ ⟨rfl, rfl, rfl, rfl, rfl, trivial⟩ ⟨hparts _ _ hB hD, fun _ => (if_neg t5).symm, hb14, hb4', k4⟩
  refine if_p (fun t10 => ?_) (fun t10 => ?_)
  · have hD : demand l i x = (decide (tagAt l x.a = 7) && decide (tagAt l x.b = 12)) := by unfold demand; rw [if_neg t1, if_neg t3, if_neg t5, if_neg t7, if_pos (.inr t10)]
    refine draw_ (w := w2) ok (.q 0 (.q 1 (.q 2 (.q 3 (.q 4 (.e 5 (.q 6 (.e 7 .done)))))))) [7] (Mod (fun b => b = w1.heap.size) w2) (by kernel_rfl) (by kernel_rfl) (by kernel_rfl) (by kernel_rfl) (by kernel_rfl) (New.drew _).mod ?_
    refine Exists.intro x.a (And.intro (fun w'' hw => cellB (hw.keep hb12 (by omega)) rfl) ?_)
    refine Exists.intro x.b (And.intro (fun w'' hw => cellB (hw.keep hb12 (by omega)) rfl) ?_)
    have hb2d := (New.drew w2).blk hb2
    refine And.intro ⟨_, cellB hb2d rfl⟩ (And.intro (fzB hb2d _) (force_ ?_))
    refine stK hb2d (show (3 : Nat) < 5 by decide) ?_
    intro w3 hb3 m3 s3
    have m23 : Mod (fun b => b = w1.heap.size) w2 w3 := Mod.trans (New.drew w2).mod m3 (fun _ _ h => h)
    refine Exists.intro _ (And.intro (fun _ h => h) (And.intro m23 ?_))
    refine And.intro ⟨_, cellB hb3 rfl⟩ (And.intro (fzB hb3 _) (force_ ?_))
    refine stK hb3 (show (4 : Nat) < 5 by decide) ?_
    intro w4 hb4 m4 s4
    have m24 : Mod (fun b => b = w1.heap.size) w2 w4 := Mod.trans m23 m4 (fun _ _ h => h)
    have hb14 := m24.keep hb12 (by omega)
    have k4 := k2.st m24 (by omega)
    have hb4' : w4.heap[w1.heap.size]? = some (.cells (entC ⟨x.tag, [], 0, x.a, x.b⟩).toArray 85 (0, 0)) := hb4
    refine Exists.intro x.a (And.intro (cellB hb14 rfl) ?_)
    refine call_ (rtag_ok (some a) n c l x.a w4 (h.new (nl.trans k4))) ?_
    rintro e w5 ⟨rfl, rfl⟩
    refine ⟨_, rfl, ?_⟩
    refine if_p (fun ha => ?_) (fun ha => ?_)
    · refine Exists.intro x.b (And.intro (cellB hb14 rfl) ?_)
      refine call_ (rtag_ok (some a) n c l x.b w5 (h.new (nl.trans k4))) ?_
      rintro e w6 ⟨rfl, rfl⟩
      refine ⟨_, rfl, ?_⟩
      rw [decide_eq_true ha, Bool.true_and] at hD
      exact hK (_, _, i) _ _ ⟨rfl, rfl, rfl, rfl, rfl, trivial⟩ ⟨hparts _ _ hB hD, fun _ => (if_neg t5).symm, hb14, hb4', k4⟩
    · rw [decide_eq_false ha, Bool.false_and] at hD
      exact hK (_, _, i) _ _ ⟨rfl, rfl, rfl, rfl, rfl, trivial⟩ ⟨hparts _ _ hB hD, fun _ => (if_neg t5).symm, hb14, hb4', k4⟩
  have hD : demand l i x = false := by unfold demand; rw [if_neg t1, if_neg t3, if_neg t5, if_neg t7, if_neg (fun h => h.elim t9 t10), if_neg t12]
  have hb2' : w2.heap[w1.heap.size]? = some (.cells (entC ⟨x.tag, [], 0, 0, 0⟩).toArray 85 (0, 0)) := hb2
  exact hK (false, ⟨x.tag, [], 0, 0, 0⟩, i) _ _ ⟨rfl, rfl, rfl, rfl, rfl, trivial⟩ ⟨by rw [hparts _ _ hB hD]; rfl, (fun h => by cases h), hb12, hb2', k2⟩
end Go.Proofs.YtdcaafldnbcdkaaGreatDoor.Pool

/-! ### Arr -/
namespace Go.Proofs.YtdcaafldnbcdkaaGreatDoor.Eng
open Go
section
variable {P : Program} {T : Tab} {F : FuncId → Bool}
theorem loadNC_aux {C : World → Prop} {a : Addr} {K : List Value → Prop} : ∀ (rest acc : List Value), (∀ k u, rest[k]? = some u → ∀ w, C w → w.cell? (a.add (acc.length + k)) = some u) → K (acc ++ rest) → loadNC C a rest.length acc.length acc K
  | [], acc, _, hk => by
    rw [List.append_nil] at hk
    exact hk
  | v :: r, acc, h, hk => by
    refine ⟨v, h 0 v rfl, ?_⟩
    have e : acc.length + 1 = (acc ++ [v]).length := by simp
    have := loadNC_aux (C := C) (a := a) (K := K) r (acc ++ [v]) (fun k u hu => by
      have := h (k + 1) u (by simpa using hu)
      rw [← e, Nat.add_assoc, Nat.add_comm 1 k]
      exact this) (by simpa using hk)
    rw [← e] at this
    exact this
/-- Cells that are known in all worlds on the way, loaded. -/
theorem loadNC_row {C : World → Prop} {a : Addr} {vs : List Value} {n : Nat} {K : List Value → Prop} (h : ∀ k u, vs[k]? = some u → ∀ w, C w → w.cell? (a.add k) = some u) (hn : vs.length = n) (hk : K vs) : loadNC C a n 0 [] K := by
  subst hn
  exact loadNC_aux (C := C) (a := a) (K := K) vs [] (fun k u hu w hw => by simpa using h k u hu w hw) hk
/-- '[n]T(s)', its address. -/
theorem s2a_run (hT : TabOk P T F) {o : Oper} {arr : TypeId} {x : Operand} {fr : Fr} {ta : TI} {N : Nat} {e : TypeId} {A : Option Addr} {n c : Nat} (ho : o.op = .sliceToArrayPointer arr x) (ht : T arr = some ta) (hd : ta.desc = .array N e) (hx : ev fr x = .slice A n c) (hn : N ≤ n) (w : World) :
    (execOp (ev fr) o).run P w = .ok (.value (.pointer A)) w := by
  have hu := hT.desc arr ta ht
  rw [hd] at hu
  have hlt : ¬ n < N := by omega
  simp [execOp, ho, Instr.arrayAt, hx, run_underlying hu, hlt]
/-- 'a[:]' of an array in memory. -/
theorem cut_arr (hT : TabOk P T F) {o : Oper} {t : TypeId} {x : Operand} {fr : Fr} {w : World} {K : Fr → World → Prop} {ta te : TI} {N : Nat} {e : TypeId} {a : Addr} (ho : o.op = .slice t x none none none) (ht : T t = some ta) (hd : ta.desc = .array N e) (he : T e = some te) (hx : ev fr x = .pointer (some a)) (hN : 0 < N)
    (k : K (putF fr o.dst (.slice (some a) N N)) w) : raw P o fr w K := by
  have hu := hT.desc t ta ht
  rw [hd] at hu
  have hs := hT.size e te he w
  refine raw_value ?_ k
  have h0 : ¬ N = 0 := by omega
  simp [execOp, ho, Instr.sliceAt, hx, run_underlying hu, Instr.sureAddr, Instr.sliceBounds, hs, h0, Addr.add]
theorem cut_arr_ (hT : TabOk P T F) {o : Oper} {t : TypeId} {x : Operand} {fr : Fr} {w : World} {K : Fr → World → Prop} {ta te : TI} {N : Nat} {e : TypeId} {a : Addr} (ho : o.op = .slice t x none none none) (ht : T t = some ta) (hd : ta.desc = .array N e) (he : T e = some te) (hx : ev fr x = .pointer (some a)) (hN : 0 < N)
    (k : K (putF fr o.dst (.slice (some a) N N)) w) : evOp P T F o fr w K := by
  have h := cut_arr (P := P) (F := F) (K := K) hT ho ht hd he hx hN k
  unfold evOp evPure
  simp only [ho, Option.map_none]
  unfold evSlice
  simp only [hx]
  exact h
/-- A slice of one member that is an array. -/
theorem build1_ {t : TypeId} {v : Value} {w : World} {put : Value → World → Prop} {ti te : TI} {e : TypeId} {xs : List Value} (ht : T t = some ti) (hd : ti.desc = .slice e) (he : T e = some te) (hv : v.cells.toList = xs) (hl : xs.length = te.size) (hb : Nat.ble te.size 16777216 = true) (hz : te.zero.length = te.size)
    (k : put (.slice (some ⟨w.heap.size, 0, none⟩) 1 1) (w.alloc (.cells xs.toArray e))) : evBuildSlice T t 1 [(0, v)] w put := by
  unfold evBuildSlice
  have h1 : (Nat.ble (1 * te.size) 16777216 && Nat.beq te.zero.length te.size) = true := by
    rw [Nat.one_mul, hb, hz]
    simp
  have hr : repeatL te.zero 1 = te.zero := by simp [repeatL]
  have h2 : (Nat.beq v.cells.toList.length te.size && Nat.ble (0 * te.size + te.size) (repeatL te.zero 1).length) = true := by
    rw [hv, hl, hr, hz]
    simp
  rw [ht]
  simp only [hd, he, h1]
  have hf : fillL (fun i => some (i * te.size, te.size)) (repeatL te.zero 1) [(0, v)] = some xs := by
    simp only [fillL, h2]
    rw [hv, hr, Nat.zero_mul, Nat.zero_add, List.take_zero, List.nil_append, List.drop_eq_nil_of_le (by omega), List.append_nil]
  exact evFill_ hf k
theorem eff_build {o : Oper} {fr : Fr} {K : Fr → World → Prop} {x : Operand} {t : TypeId} {v : Value} {w : World} {ti te : TI} {e : TypeId} {xs : List Value} (ho : o.op = .buildSlice t 1 #[(0, x)]) (hv : ev fr x = v) (ht : T t = some ti) (hd : ti.desc = .slice e) (he : T e = some te) (hc : v.cells.toList = xs) (hb : Nat.ble te.size 16777216 = true) (hz : te.zero.length = te.size) (hl : xs.length = te.size)
    (k : K (putF fr o.dst (.slice (some ⟨w.heap.size, 0, none⟩) 1 1)) (w.alloc (.cells xs.toArray e))) : Eff (evOp P T F o fr w K) := by
  refine ⟨?_⟩
  have h := build1_ (w := w) (put := fun v w' => K (putF fr o.dst v) w') ht hd he hc hl hb hz k
  unfold evOp evPure
  simp only [ho]
  subst hv
  exact h
theorem madeCells_get (z : Array Value) (n : Nat) (i : Nat) (h : i < n) (hz : 0 < z.size) : (madeCells z n).toList[i]? = z.toList[i % z.size]? := by
  have : i % z.size < z.size := Nat.mod_lt _ hz
  simp [madeCells, h, Array.getElem!_eq_getD, Array.getD_eq_getD_getElem?, this]
/-- 'make([]T, n)' of structs: cell by cell the zero value's. -/
theorem make_g (hT : TabOk P T F) {o : Oper} {l : Operand} {t e : TypeId} {ti te : TI} {fr : Fr} {w : World} {K : Fr → World → Prop} (ho : o.op = .makeSlice t l l)
    (ht : T t = some ti) (htd : ti.desc = .slice e) (he : T e = some te) {n : Nat} {kl : IntKind} {i : Int} (hl : ev fr l = .int kl i) (hi : i = (n : Int)) (hb : te.bytes * n ≤ 281474976710656) (h63 : n ≤ 9223372036854775807) (hz : te.zero.length = te.size) (hs : 0 < te.size)
    (k : ∀ w' arr, w'.heap[w.heap.size]? = some (.cells arr e (0, 0)) → arr.size = n * te.size → (∀ j, j < n * te.size → arr[j]? = te.zero[j % te.size]?) → New w w' → K (putF fr o.dst (.slice (some ⟨w.heap.size, 0, none⟩) n n)) w') : raw P o fr w K := by
  subst hi
  obtain ⟨j, z, hj, hjs, hjb, hjz, hzc⟩ := hT.info e te he
  have hu := hT.desc t ti ht
  rw [htd] at hu
  have h63' : ¬ ((n : Int) > 9223372036854775807) := by omega
  obtain ⟨w', hrun, hown, hg⟩ := run_make_full (P := P) w w.heap.size t e j z te.size hu hj hjz hjs kl kl n (by rw [hjb]; exact hb) (by unfold maxLen; omega) (Nat.le_refl _)
  have hzs : z.cells.size = te.size := by rw [hzc]; simpa using hz
  have hn : New w w' := (Mod.grown hg).mono fun i _ h => by cases h
  refine raw_value (w' := w') (v := .slice (some ⟨w.heap.size, 0, none⟩) n n) ?_ ?_
  · simp [execOp, ho, hl, hrun]
  · rcases hown.2 with ⟨hv, _⟩ | ⟨g, cap, cur, hv, hbg, hgg, hnc, hcm, hcs, htake⟩
    · cases hv
    · injection hv with h1 h2 h3
      injection h1 with h1
      injection h1 with h1 _ _
      subst h1 h3
      have hfull : cur.toList = (madeCells z.cells (n * te.size)).toList := by
        rw [← htake, List.take_of_length_le]
        rw [Array.length_toList, hcs]
        exact Nat.le_refl _
      refine k w' cur hgg hcs ?_ hn
      · intro j hj
        have := congrArg (fun l : List Value => l[j]?) hfull
        simp only [Array.getElem?_toList] at this
        rw [this]
        have h2 := madeCells_get z.cells (n * te.size) j hj (by omega)
        rw [Array.getElem?_toList] at h2
        rw [h2, hzs, hzc]
end
end Go.Proofs.YtdcaafldnbcdkaaGreatDoor.Eng

/-! ### PWalk5 -/
namespace Go.Proofs.YtdcaafldnbcdkaaGreatDoor.Pool
open Go Go.Proofs.YtdcaafldnbcdkaaGreatDoor Go.Proofs.YtdcaafldnbcdkaaGreatDoor.Eng Go.Proofs
set_option maxRecDepth 10000

def conZ : Array Value := #[.int .i64 0, .int .i64 0, .string ⟨#[]⟩, .string ⟨#[]⟩, .string ⟨#[]⟩]
theorem conCs_one (c : Con) : ∀ u ∈ conCs c, u.oneCell' = true := by
  intro u hu
  simp [conCs] at hu
  rcases hu with rfl | rfl | rfl | rfl | rfl <;> rfl
theorem mean_none {l : List Ent} {i : Int} (h3 : ¬ tagAt l i = 3) (h5 : ¬ tagAt l i = 5) (h7 : ¬ tagAt l i = 7) (h9 : ¬ tagAt l i = 9) (h10 : ¬ tagAt l i = 10) : mean l i = c0 := by
  unfold mean
  rw [if_neg (fun h => h.elim h3 h5), if_neg h7, if_neg (fun h => h.elim h9 h10)]
theorem mean_num {l : List Ent} {i : Int} (h : tagAt l i = 3 ∨ tagAt l i = 5) : mean l i = ⟨tagAt l i, (at_ l i).n, [], [], []⟩ := by
  unfold mean
  rw [if_pos h]
theorem mean_cls {l : List Ent} {i : Int} (h : tagAt l i = 7) : mean l i = ⟨tagAt l i, 0, (at_ l (at_ l i).a).text, [], []⟩ := by
  unfold mean
  rw [if_neg (by rw [h]; decide), if_pos h]
theorem mean_mem {l : List Ent} {i : Int} (h : tagAt l i = 9 ∨ tagAt l i = 10) : mean l i = ⟨tagAt l i, 0, (at_ l (at_ l (at_ l i).a).a).text, (at_ l (at_ l (at_ l i).b).a).text, (at_ l (at_ l (at_ l i).b).b).text⟩ := by
  unfold mean
  rw [if_neg (by omega), if_neg (by omega), if_pos h]
/-- What an entry leads to. -/
theorem ref_at {l : List Ent} {w : World} {A : Option Addr} {n : Nat} (h : Pl w A n l) {i t : Int} (ht : t ≠ 0) (hi : tagAt l i = t) : ∃ (k : Nat) (a : Addr), i = k ∧ k < n ∧ A = some a ∧ (at_ l k).tag = t ∧ EntOk (at_ l k) ∧ ∀ j u, (entC (at_ l k))[j]? = some u → w.cell? ((a.add (k * 5)).add j) = some u := by
  obtain ⟨k, rfl, hk, ht'⟩ := tag_in ht hi
  have hkn : k < n := by rw [h.len]; exact hk
  obtain ⟨a, ha, ho, hc⟩ := h.at_ hkn
  exact ⟨k, a, rfl, hkn, ha, ht', ho, hc⟩
end Go.Proofs.YtdcaafldnbcdkaaGreatDoor.Pool

/-! ### PWalk6 -/
namespace Go.Proofs.YtdcaafldnbcdkaaGreatDoor.Pool
open Go Go.Proofs.YtdcaafldnbcdkaaGreatDoor Go.Proofs.YtdcaafldnbcdkaaGreatDoor.Eng Go.Proofs
set_option maxRecDepth 10000

theorem rmean_ok (A : Option Addr) (n c : Nat) (l : List Ent) (i : Int) (w : World) (h : Pl w A n l) (hp : Okp l) :
    Calls Tryz.prog 97 #[.slice A n c, .int .i64 i] w fun e w' => e = .returned (conV (mean l i)) ∧ New w w' := by
  refine enter ok Tryz.func97 rfl rfl rfl ?_
  have hb0 := heap_alloc_new w (.cells conZ 127)
  have n0 := New.alloc w (.cells conZ 127)
  have hs0 : (w.alloc (.cells conZ 127)).heap.size = w.heap.size + 1 := by simp
  have hne0 : w.heap.size ≠ (w.alloc (.cells conZ 127)).heap.size := by rw [hs0]; omega
  have hle0 : w.heap.size ≤ (w.alloc (.cells conZ 127)).heap.size := by rw [hs0]; omega
  refine And.intro rfl ?_
  refine storeNew (w := w.alloc (.cells conZ 127)) (vs := entC e0) (arr := entZ) rfl (entC_one e0) ?_
  intro w1 hb1 n1 s1
  have k1 := n0.trans n1
  have hb01 := n1.blk hb0
  refine nil_ (thenF_ ?_)
  refine seq_cut (σ := Ent) (fun _ => [(0, .slice A n c), (4, .pointer (some ⟨w.heap.size, 0, none⟩)), (5, .pointer (some ⟨(w.alloc (.cells conZ 127)).heap.size, 0, none⟩))])
    (fun x w2 => w2.heap[w.heap.size]? = some (.cells conZ 127 (0, 0)) ∧ w2.heap[(w.alloc (.cells conZ 127)).heap.size]? = some (.cells (entC x).toArray 85 (0, 0)) ∧ New w w2 ∧ x.tag = tagAt l i ∧ (tagAt l i ≠ 0 → x = at_ l i)) ?_ ?_
  rotate_left
  · intro K hK
    refine call_ (rtag_ok A n c l i w1 (h.new k1)) ?_
    rintro e w' ⟨rfl, rfl⟩
    refine ⟨_, rfl, ?_⟩
    refine if_n (fun hne => ?_) (fun h0 => ?_)
    · obtain ⟨k, a, rfl, hk, rfl, htk, hok, hc⟩ := ref_at h hne rfl
      have htop := h.top
      refine And.intro (by omega) (And.intro (by omega) ?_)
      refine loadN_row (vs := entC (at_ l k)) (fun j u hu => by rw [Int.toNat_natCast]; exact k1.cell (hc j u hu)) rfl ?_
      refine And.intro rfl ?_
      refine storeN_all (vs := entC (at_ l k)) hb1 rfl (entC_one _) ?_
      intro w3 hb3 m3 s3
      exact hK (at_ l k) _ _ ⟨rfl, rfl, rfl, trivial⟩ ⟨m3.keep hb01 hne0, hb3, k1.st m3 hle0, htk, fun _ => rfl⟩
    · exact hK e0 _ _ ⟨rfl, rfl, rfl, trivial⟩ ⟨hb01, hb1, k1, h0.symm, fun hne => absurd h0 hne⟩
  rintro x w2 fr1 ⟨hb02, hb2, k2, htx, hx⟩
  have htop := h.top
  refine Exists.intro x.tag (And.intro (cellB hb2 rfl) ?_)
  have hmn := fun h => mean_num (l := l) (i := i) h
  have hmc := fun h => mean_cls (l := l) (i := i) h
  have hmm := fun h => mean_mem (l := l) (i := i) h
  have hm0 := fun h1 h2 h3 h4 h5 => mean_none (l := l) (i := i) h1 h2 h3 h4 h5
  have hdem : tagAt l i ≠ 0 → ∃ k : Nat, demand l k x = true ∧ x = at_ l k := fun hne => by
    obtain ⟨k, rfl, hk, htk⟩ := tag_in hne rfl
    have hxk := hx hne
    obtain ⟨_, hf⟩ := tag_right hp hk (by rw [htk]; exact hne)
    exact ⟨k, by rw [hxk]; exact fits_demand hf, hxk⟩
  have hxi : tagAt l i ≠ 0 → at_ l i = x := fun hne => (hx hne).symm
  generalize tagAt l i = t at htx hx hmn hmc hmm hm0 hdem hxi
  have num : t = 3 ∨ t = 5 → ∀ {K : World → Prop}, (∀ w9, w9.heap[w.heap.size]? = some (.cells (conCs (mean l i)).toArray 127 (0, 0)) → New w w9 → K w9) → storeN ⟨w.heap.size, 0, none⟩ (conCs ⟨x.tag, x.n, [], [], []⟩) 0 w2 K := fun ht K hK => by
    have e : (⟨x.tag, x.n, [], [], []⟩ : Con) = mean l i := by rw [hmn ht, htx, hxi (by omega)]
    rw [e]
    refine storeN_all (vs := conCs (mean l i)) hb02 rfl (conCs_one _) ?_
    intro w9 hb9 m9 s9
    exact hK w9 hb9 (k2.st m9 (Nat.le_refl _))
  have numx : t = 3 ∨ t = 5 → ∀ {K : Value → Prop}, True := fun _ _ => trivial
  clear numx
  rw [htx]
  refine if_p (fun h3 => ?_) (fun h3 => ?_)
  · refine if_p (fun _ => ?_) (fun h3' => absurd h3 h3')
    refine Exists.intro x.tag (And.intro (cellB hb2 rfl) ?_)
    refine Exists.intro x.n (And.intro (cellB hb2 rfl) ?_)
    refine And.intro rfl ?_
    refine num (.inl h3) ?_
    intro w9 hb9 k9
    refine loadN_row (vs := conCs (mean l i)) (rowB hb9) rfl ?_
    exact ⟨rfl, k9⟩
  refine if_p (fun h5 => ?_) (fun h5 => ?_)
  · refine Exists.intro x.tag (And.intro (cellB hb2 rfl) ?_)
    refine Exists.intro x.n (And.intro (cellB hb2 rfl) ?_)
    refine And.intro rfl ?_
    refine num (.inr h5) ?_
    intro w9 hb9 k9
    refine loadN_row (vs := conCs (mean l i)) (rowB hb9) rfl ?_
    exact ⟨rfl, k9⟩
  clear num
  refine if_p (fun h7 => ?_) (fun h7 => ?_)
  · replace h7 : t = 7 := h7
    obtain ⟨kx, hd, hxk⟩ := hdem (by omega)
    obtain ⟨k1', a1, hk1, hl1, ha1, _, ho1, hc1⟩ := ref_at h (by decide) (demand_class hd (by rw [htx, h7]))
    cases ha1
    have hC : mean l i = ⟨x.tag, 0, (at_ l k1').text, [], []⟩ := by rw [hmc h7, htx, hxi (by omega), hk1]
    refine draw_ (w := w2) ok (.q 0 (.q 1 (.q 2 (.q 3 (.q 4 (.q 5 (.q 6 (.q 7 (.q 8 (.e 9 .done)))))))))) [9] (New w2) (by kernel_rfl) (by kernel_rfl) (by kernel_rfl) (by kernel_rfl) (by kernel_rfl) (New.drew _) ?_
    refine Exists.intro x.tag (And.intro (fun w'' hw => cellB (hw.blk hb2) rfl) ?_)
    refine Exists.intro x.a (And.intro (fun w'' hw => cellB (hw.blk hb2) rfl) ?_)
    refine And.intro (by omega) (And.intro (by omega) ?_)
    refine Exists.intro (⟨(at_ l k1').text.toArray⟩ : ByteArray) (And.intro (fun w'' hw => by rw [hk1, Int.toNat_natCast]; exact (k2.trans hw).cell (hc1 1 _ rfl)) ?_)
    rw [hC]
    refine And.intro rfl ?_
    refine storeN_all (vs := conCs ⟨x.tag, 0, (at_ l k1').text, [], []⟩) ((New.drew _).blk hb02) rfl (conCs_one _) ?_
    intro w9 hb9 m9 s9
    refine loadN_row (vs := conCs ⟨x.tag, 0, (at_ l k1').text, [], []⟩) (rowB hb9) rfl ?_
    exact ⟨rfl, (k2.trans (New.drew _)).st m9 (Nat.le_refl _)⟩
  replace h3 : ¬ t = 3 := h3
  replace h5 : ¬ t = 5 := h5
  replace h7 : ¬ t = 7 := h7
  refine seq_cut (σ := Unit) (fun _ => [(0, .slice A n c), (4, .pointer (some ⟨w.heap.size, 0, none⟩)), (5, .pointer (some ⟨(w.alloc (.cells conZ 127)).heap.size, 0, none⟩)), (37, .bool (decide (t = 9 ∨ t = 10)))]) (fun _ w' => w' = w2) ?_ ?_
  rotate_left
  · intro K hK
    refine if_p (fun h9 => ?_) (fun h9 => ?_)
    · exact hK () _ _ ⟨rfl, rfl, rfl, (show Value.bool (decide (t = 9)) = .bool (decide (t = 9 ∨ t = 10)) by rw [decide_eq_true (show t = 9 from h9), decide_eq_true (show t = 9 ∨ t = 10 from .inl h9)]), trivial⟩ rfl
    · refine hK () _ _ ⟨rfl, rfl, rfl, (show Value.bool (decide (t = 10)) = .bool (decide (t = 9 ∨ t = 10)) from ?_), trivial⟩ rfl
      replace h9 : ¬ t = 9 := h9
      congr 1
      by_cases h10 : t = 10
      · rw [decide_eq_true h10, decide_eq_true (show t = 9 ∨ t = 10 from .inr h10)]
      · rw [decide_eq_false h10, decide_eq_false (show ¬ (t = 9 ∨ t = 10) from fun h => h.elim h9 h10)]
  rintro _ w' fr2 rfl
  refine if_p (fun hm => ?_) (fun hno => ?_)
  rotate_left
  · rw [hm0 h3 h5 h7 (fun h => hno (.inl h)) (fun h => hno (.inr h))]
    refine And.intro rfl ?_
    refine storeN_all (vs := conCs c0) hb02 rfl (conCs_one _) ?_
    intro w9 hb9 m9 s9
    refine loadN_row (vs := conCs c0) (rowB hb9) rfl ?_
    exact ⟨rfl, k2.st m9 (Nat.le_refl _)⟩
  obtain ⟨kx, hd, hxk⟩ := hdem (by omega)
  obtain ⟨r7, r12⟩ := demand_ref hd (by rw [htx]; exact hm)
  obtain ⟨kb, ab, hkb, hlb, hab, htb, hob, hcb⟩ := ref_at h (by decide) r12
  cases hab
  obtain ⟨kd, ad', hkd, hld, had, htd, hod, hcd⟩ := ref_at h (by decide) r7
  cases had
  obtain ⟨ke, ae, hke, hle, hae, _, hoe, hce⟩ := ref_at h (by decide) (demand_class (fits_demand (tag_right hp (by rw [← h.len]; exact hld) (by rw [htd]; decide)).2) htd)
  cases hae
  obtain ⟨na, nb⟩ := demand_name (fits_demand (tag_right hp (by rw [← h.len]; exact hlb) (by rw [htb]; decide)).2) htb
  obtain ⟨ka, aa, hka, hla, haa, _, hoa, hca⟩ := ref_at h (by decide) na
  obtain ⟨kc, ac, hkc, hlc, hac, _, hoc, hcc⟩ := ref_at h (by decide) nb
  cases haa
  cases hac
  have hC : mean l i = ⟨x.tag, 0, (at_ l ke).text, (at_ l ka).text, (at_ l kc).text⟩ := by rw [hmm hm, htx, hxi (by omega), hkd, hke, hkb, hka, hkc]
  refine Exists.intro x.b (And.intro (cellB hb2 rfl) ?_)
  refine And.intro (by omega) (And.intro (by omega) ?_)
  refine loadN_row (vs := entC (at_ l kb)) (fun j u hu => by rw [hkb, Int.toNat_natCast]; exact k2.cell (hcb j u hu)) rfl ?_
  refine And.intro rfl ?_
  refine storeNew (vs := entC (at_ l kb)) (arr := entZ) rfl (entC_one _) ?_
  intro w3 hb3 n3 s3
  have k3 := k2.trans n3
  have hb23 := n3.blk hb2
  have hb03 := n3.blk hb02
  refine draw_ (w := w3) ok (.q 0 (.q 1 (.q 2 (.q 3 (.q 4 (.q 5 (.q 6 (.q 7 (.q 8 (.q 9 (.q 10 (.q 11 (.q 12 (.q 13 (.q 14 (.q 15 (.q 16 (.q 17 (.q 18 (.q 19 (.q 20 (.q 21 (.q 22 (.q 23 (.q 24 (.e 25 .done)))))))))))))))))))))))))) [25] (New w3) (by kernel_rfl) (by kernel_rfl) (by kernel_rfl) (by kernel_rfl) (by kernel_rfl) (New.drew _) ?_
  refine Exists.intro x.tag (And.intro (fun w'' hw => cellB (hw.blk hb23) rfl) ?_)
  refine Exists.intro x.a (And.intro (fun w'' hw => cellB (hw.blk hb23) rfl) ?_)
  refine And.intro (by omega) (And.intro (by omega) ?_)
  refine Exists.intro (at_ l kd).a (And.intro (fun w'' hw => by rw [hkd, Int.toNat_natCast]; exact (k3.trans hw).cell (hcd 3 _ rfl)) ?_)
  refine And.intro (by omega) (And.intro (by omega) ?_)
  refine Exists.intro (⟨(at_ l ke).text.toArray⟩ : ByteArray) (And.intro (fun w'' hw => by rw [hke, Int.toNat_natCast]; exact (k3.trans hw).cell (hce 1 _ rfl)) ?_)
  refine Exists.intro (at_ l kb).a (And.intro (fun w'' hw => cellB (hw.blk hb3) rfl) ?_)
  refine And.intro (by omega) (And.intro (by omega) ?_)
  refine Exists.intro (⟨(at_ l ka).text.toArray⟩ : ByteArray) (And.intro (fun w'' hw => by rw [hka, Int.toNat_natCast]; exact (k3.trans hw).cell (hca 1 _ rfl)) ?_)
  refine Exists.intro (at_ l kb).b (And.intro (fun w'' hw => cellB (hw.blk hb3) rfl) ?_)
  refine And.intro (by omega) (And.intro (by omega) ?_)
  refine Exists.intro (⟨(at_ l kc).text.toArray⟩ : ByteArray) (And.intro (fun w'' hw => by rw [hkc, Int.toNat_natCast]; exact (k3.trans hw).cell (hcc 1 _ rfl)) ?_)
  rw [hC]
  refine And.intro rfl ?_
  refine storeN_all (vs := conCs ⟨x.tag, 0, (at_ l ke).text, (at_ l ka).text, (at_ l kc).text⟩) ((New.drew _).blk hb03) rfl (conCs_one _) ?_
  intro w9 hb9 m9 s9
  refine loadN_row (vs := conCs ⟨x.tag, 0, (at_ l ke).text, (at_ l ka).text, (at_ l kc).text⟩) (rowB hb9) rfl ?_
  exact ⟨rfl, (k3.trans (New.drew _)).st m9 (Nat.le_refl _)⟩
end Go.Proofs.YtdcaafldnbcdkaaGreatDoor.Pool
