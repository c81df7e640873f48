/- The document's answer for the package word, walked: its reader, and the code's bytes. -/
import Derived.Test.YteanhakkceancaaWRef
namespace Go.Proofs.Yteanhakkceancaa.Word
open Go Go.Proofs.Yteanhakkceancaa Go.Proofs.Yteanhakkceancaa.Eng Go.Proofs
set_option maxRecDepth 10000

theorem ad1 (g j : Nat) : (⟨g, 0, none⟩ : Addr).add j = ⟨g, j, none⟩ := by rw [Addr.add_lit, Nat.zero_add]
theorem row_mod2 {S : Nat → Prop} {w w' : World} (h : Mod S w w') {A : Option Addr} {bs : List UInt8} (hr : Row w A (bvs bs)) (hn : bs ≠ [] → ∀ a, A = some a → ¬ S a.block) : Row w' A (bvs bs) := by
  by_cases hb : bs = []
  · subst hb
    exact Row.nil _ _
  · exact hr.mod h (hn hb)
/-- The document's reader in memory. -/
structure Rf (w : World) (g : Nat) (A : Option Addr) (c : Nat) (bs : List UInt8) (i : Nat) : Prop where
  blk : w.heap[g]? = some (.cells #[.slice A bs.length c, .int .i64 i] 98 (0, 0))
  row : Row w A (bvs bs)
  off : bs ≠ [] → ∀ a, A = some a → a.block ≠ g
  at_ : i ≤ bs.length
  cap : bs.length ≤ c
  top : c ≤ 9223372036854775807
theorem Rf.c0 {w : World} {g : Nat} {A : Option Addr} {c : Nat} {bs : List UInt8} {i : Nat} (h : Rf w g A c bs i) : w.cell? ⟨g, 0, none⟩ = some (.slice A bs.length c) := by
  rw [cell_of_row _ _ 0 _ _ _ h.blk]; rfl
theorem Rf.c1 {w : World} {g : Nat} {A : Option Addr} {c : Nat} {bs : List UInt8} {i : Nat} (h : Rf w g A c bs i) : w.cell? ⟨g, 1, none⟩ = some (.int .i64 i) := by
  rw [cell_of_row _ _ 1 _ _ _ h.blk]; rfl
theorem Rf.new {w w' : World} {g : Nat} {A : Option Addr} {c : Nat} {bs : List UInt8} {i : Nat} (h : Rf w g A c bs i) (k : New w w') : Rf w' g A c bs i :=
  ⟨k.blk h.blk, h.row.new k, h.off, h.at_, h.cap, h.top⟩
theorem Rf.mod {S : Nat → Prop} {w w' : World} {g : Nat} {A : Option Addr} {c : Nat} {bs : List UInt8} {i : Nat} (h : Rf w g A c bs i) (k : Mod S w w') (hg : ¬ S g) (ha : bs ≠ [] → ∀ a, A = some a → ¬ S a.block) : Rf w' g A c bs i :=
  ⟨k.blk h.blk hg, row_mod2 k h.row ha, h.off, h.at_, h.cap, h.top⟩
theorem Rf.lt {w : World} {g : Nat} {A : Option Addr} {c : Nat} {bs : List UInt8} {i : Nat} (h : Rf w g A c bs i) : g < w.heap.size := (Array.getElem?_eq_some_iff.1 h.blk).1
theorem Rf.put {w : World} {g : Nat} {A : Option Addr} {c : Nat} {bs : List UInt8} {i : Nat} (h : Rf w g A c bs i) {j : Nat} (hj : j ≤ bs.length) {v : Value} (hv : v = .int .i64 j) :
    Rf (w.setCell ⟨g, 1, none⟩ v) g A c bs j ∧ Mod (fun k => k = g) w (w.setCell ⟨g, 1, none⟩ v) := by
  subst hv
  have m := Mod.set w ⟨g, 1, none⟩ (.int .i64 j)
  refine ⟨⟨?_, row_mod2 m h.row (fun hb a ha => h.off hb a ha), h.off, hj, h.cap, h.top⟩, m⟩
  have := heap_setCell_same w g 1 _ _ (.int .i64 (j : Int)) h.blk
  rw [this]
  rfl
theorem Rf.fz {w : World} {g : Nat} {A : Option Addr} {c : Nat} {bs : List UInt8} {i : Nat} (h : Rf w g A c bs i) (j : Nat) : w.frozen? ⟨g, j, none⟩ = false := frozen_of_row w g j _ _ h.blk

theorem bvs_cut (bs : List UInt8) (i n : Nat) : bvs ((bs.drop i).take n) = ((bvs bs).drop i).take n := by
  simp [bvs, List.map_drop, List.map_take]
theorem row_cut {w : World} {A : Option Addr} {bs : List UInt8} {c : Nat} (hr : Row w A (bvs bs)) (hc : bs.length ≤ c) (i n : Nat) : Row w (slA A c i 1) (bvs ((bs.drop i).take n)) := by
  have := (hr.cut c i 1 (by rw [bvs_length]; omega)).take n
  rw [Nat.mul_one] at this
  rw [bvs_cut]
  exact this
theorem get_num (sign : Bool) (bs : List UInt8) (i n : Nat) (hw : wide (n : Int) = true) (hin : i + n ≤ bs.length) :
    ((num sign ((bs.drop i).take n)).2 = 0 → get sign bs i n = ((num sign ((bs.drop i).take n)).1, 0, i + n)) ∧ ((num sign ((bs.drop i).take n)).2 ≠ 0 → get sign bs i n = (0, (num sign ((bs.drop i).take n)).2, i)) := by
  have hl : ((bs.drop i).take n).length = n := by rw [List.length_take, List.length_drop]; omega
  have hg : get sign bs i n = if sign = true then (sval n (be ((bs.drop i).take n)), 0, i + n) else if be ((bs.drop i).take n) < 9223372036854775808 then (((be ((bs.drop i).take n) : Nat) : Int), 0, i + n) else (0, 3, i) := by
    unfold get
    rw [if_pos hw, if_neg (by omega), Int.toNat_natCast]
  rw [hg]
  unfold num
  rw [hl]
  cases sign with
  | true => exact ⟨fun _ => rfl, fun h => absurd rfl h⟩
  | false =>
    by_cases hb : be ((bs.drop i).take n) < 9223372036854775808
    · simp [hb]
    · simp [hb]
theorem get_unwide {sign : Bool} {bs : List UInt8} {i : Nat} {k : Int} (h : wide k = false) : get sign bs i k = (0, 2, i) := by
  unfold get
  rw [h, if_neg (by simp)]
theorem get_short {sign : Bool} {bs : List UInt8} {i : Nat} {k : Int} (h : wide k = true) (hl : (bs.length : Int) - i < k) : get sign bs i k = (0, 7, i) := by
  unfold get
  rw [if_pos h, if_pos hl]
theorem Get_ok (g : Nat) (A : Option Addr) (c : Nat) (bs : List UInt8) (i : Nat) (k : Int) (sign : Bool) (w : World) (h : Rf w g A c bs i) :
    Calls Try.prog 74 #[.pointer (some ⟨g, 0, none⟩), .int .i64 k, .bool sign] w fun e w' => e = .returned (.tuple #[.int .i64 (get sign bs i k).1, .int .i64 (get sign bs i k).2.1]) ∧ Rf w' g A c bs (get sign bs i k).2.2 ∧ Mod (fun b => b = g) w w' := by
  refine enter ok Try.func74 rfl rfl rfl ?_
  refine call_ (refwide_ok k w) ?_
  rintro e w' ⟨rfl, rfl⟩
  refine ⟨_, rfl, ?_⟩
  have ha := h.at_
  have hb := h.cap
  have hc := h.top
  refine if_ (fun hwk => ?_) (fun hwk => ?_)
  · rw [get_unwide (by simpa using hwk)]
    exact ⟨rfl, h, Mod.refl _ _⟩
  replace hwk : wide k = true := by simpa using hwk
  have hk := wide_cases hwk
  obtain ⟨n, rfl⟩ : ∃ n : Nat, k = n := ⟨k.toNat, by omega⟩
  refine draw_ ok (.q 0 (.q 1 (.q 2 (.q 3 (.q 4 (.q 5 (.q 6 (.q 7 (.q 8 (.q 9 (.q 10 (.q 11 .done)))))))))))) [11] (New w') (by kernel_rfl) (by kernel_rfl) (by kernel_rfl) (by kernel_rfl) (by kernel_rfl) (New.drew w') ?_
  refine Exists.intro A (Exists.intro bs.length (Exists.intro c (And.intro (fun w'' hw => by rw [ad1]; exact hw.cell h.c0) ?_)))
  refine Exists.intro (i : Int) (And.intro (fun w'' hw => by rw [ad1]; exact hw.cell h.c1) ?_)
  have hw1 := h.new (New.drew w')
  have esub : IntKind.i64.wrap ((bs.length : Int) - (i : Int)) = (bs.length : Int) - i := wrap_i64 (by omega) (by omega)
  refine if_p (fun hl => ?_) (fun hl => ?_)
  · rw [esub] at hl
    rw [get_short hwk hl]
    exact ⟨rfl, hw1, (New.drew _).mod⟩
  rw [esub] at hl
  have hin : i + n ≤ bs.length := by omega
  obtain ⟨g1, g2⟩ := get_num sign bs i n hwk hin
  have ein : IntKind.i64.wrap ((i : Int) + (n : Int)) = ((i + n : Nat) : Int) := by
    rw [wrap_i64 (by omega) (by omega)]
    omega
  have hlc : ((bs.drop i).take n).length = n := by rw [List.length_take, List.length_drop]; omega
  refine draw_ ok (.q 0 (.q 1 (.q 2 (.q 3 (.q 4 (.q 5 (.q 6 (.q 7 (.q 8 (.q 9 (.q 10 (.q 11 (.q 12 (.q 13 (.q 14 (.q 15 (.e 16 (.q 17 (.q 18 (.q 19 (.q 20 (.q 21 .done)))))))))))))))))))))) [21] (New w'.drew) (by kernel_rfl) (by kernel_rfl) (by kernel_rfl) (by kernel_rfl) (by kernel_rfl) (New.drew _) ?_
  refine Exists.intro A (Exists.intro bs.length (Exists.intro c (And.intro (fun w'' hw => by rw [ad1]; exact hw.cell hw1.c0) ?_)))
  refine Exists.intro (i : Int) (And.intro (fun w'' hw => by rw [ad1]; exact hw.cell hw1.c1) ?_)
  refine Exists.intro (i : Int) (And.intro (fun w'' hw => by rw [ad1]; exact hw.cell hw1.c1) ?_)
  refine And.intro (by omega) (And.intro (by rw [ein]; omega) (And.intro (by rw [ein]; omega) ?_))
  have hw2 := hw1.new (New.drew _)
  have nn : New w' w'.drew.drew := (New.drew _).trans (New.drew _)
  refine call_ (Number_ok (slA A c i 1) _ _ ((bs.drop i).take n) sign w'.drew.drew (by rw [ein, hlc]; omega) (row_cut hw2.row hb i n) (by rw [hlc]; exact hwk)) ?_
  rintro e w3 ⟨rfl, rfl⟩
  refine ⟨_, rfl, ?_⟩
  refine Exists.intro (New w'.drew) (And.intro (fun _ h => h) (And.intro (New.drew _) ?_))
  generalize (num sign ((bs.drop i).take n)).1 = r1 at g1 g2
  generalize (num sign ((bs.drop i).take n)).2 = r2 at g1 g2
  refine if_n (fun hne => ?_) (fun he => ?_)
  · rw [g2 hne]
    exact ⟨rfl, hw2, nn.mod⟩
  · rw [g1 he]
    obtain ⟨hput, hmod⟩ := hw2.put (j := i + n) hin (v := .int .i64 (IntKind.i64.wrap ((i : Int) + (n : Int)))) (by rw [ein])
    refine Exists.intro (i : Int) (And.intro (by rw [ad1]; exact hw2.c1) (And.intro ⟨_, by rw [ad1]; exact hw2.c1⟩ (And.intro (by rw [ad1]; exact hw2.fz 1) ⟨rfl, ?_, ?_⟩)))
    · rw [ad1]
      exact hput
    · rw [ad1]
      exact Mod.trans nn.mod hmod fun _ _ h => h

/-- What bytes are read: so many, or why not; the place behind. -/
def getB (bs : List UInt8) (i : Nat) (n : Int) : List UInt8 × Int × Nat :=
  if n < 0 then ([], 2, i) else if (bs.length : Int) - i < n then ([], 7, i) else ((bs.drop i).take n.toNat, 0, i + n.toNat)
theorem RfBytes_ok (g : Nat) (A : Option Addr) (c : Nat) (bs : List UInt8) (i : Nat) (k : Int) (w : World) (h : Rf w g A c bs i) (hm : bs.length ≤ 140737488355328) :
    Calls Try.prog 75 #[.pointer (some ⟨g, 0, none⟩), .int .i64 k] w fun e w' => ∃ v, e = .returned (.tuple #[v, .int .i64 (getB bs i k).2.1]) ∧ w'.ownsRow w.heap.size 5 1 v (getB bs i k).1.length (bvs (getB bs i k).1) ∧ Rf w' g A c bs (getB bs i k).2.2 ∧ Mod (fun b => b = g) w w' := by
  refine enter ok Try.func75 rfl rfl rfl ?_
  have ha := h.at_
  have hb := h.cap
  have hc := h.top
  have nil : ∀ w' : World, w'.ownsRow w.heap.size 5 1 (.slice none 0 0) 0 (bvs []) := fun _ => ⟨rfl, .inl ⟨rfl, rfl⟩⟩
  refine if_p (fun hneg => ?_) (fun hneg => ?_)
  · have : getB bs i k = ([], 2, i) := by unfold getB; rw [if_pos hneg]
    rw [this]
    exact ⟨_, rfl, nil _, h, Mod.refl _ _⟩
  refine draw_ ok (.q 0 (.q 1 (.q 2 (.q 3 (.q 4 (.q 5 (.q 6 (.q 7 (.q 8 (.q 9 (.q 10 (.q 11 .done)))))))))))) [11] (New w) (by kernel_rfl) (by kernel_rfl) (by kernel_rfl) (by kernel_rfl) (by kernel_rfl) (New.drew w) ?_
  refine Exists.intro A (Exists.intro bs.length (Exists.intro c (And.intro (fun w'' hw => by rw [ad1]; exact hw.cell h.c0) ?_)))
  refine Exists.intro (i : Int) (And.intro (fun w'' hw => by rw [ad1]; exact hw.cell h.c1) ?_)
  have hw1 := h.new (New.drew w)
  have esub : IntKind.i64.wrap ((bs.length : Int) - (i : Int)) = (bs.length : Int) - i := wrap_i64 (by omega) (by omega)
  refine if_p (fun hl => ?_) (fun hl => ?_)
  · rw [esub] at hl
    have : getB bs i k = ([], 7, i) := by unfold getB; rw [if_neg hneg, if_pos hl]
    rw [this]
    exact ⟨_, rfl, nil _, hw1, (New.drew _).mod⟩
  rw [esub] at hl
  obtain ⟨n, rfl⟩ : ∃ n : Nat, k = n := ⟨k.toNat, by omega⟩
  have hin : i + n ≤ bs.length := by omega
  have hgb : getB bs i n = ((bs.drop i).take n, 0, i + n) := by unfold getB; rw [if_neg hneg, if_neg hl, Int.toNat_natCast]
  rw [hgb]
  have hlc : ((bs.drop i).take n).length = n := by rw [List.length_take, List.length_drop]; omega
  have ein : IntKind.i64.wrap ((i : Int) + (n : Int)) = ((i + n : Nat) : Int) := by
    rw [wrap_i64 (by omega) (by omega)]
    omega
  have eout : IntKind.i64.wrap (((i + n : Nat) : Int) - (n : Int)) = (i : Int) := by
    rw [wrap_i64 (by omega) (by omega)]
    omega
  obtain ⟨hput, hmod⟩ := hw1.put (j := i + n) hin (v := .int .i64 (IntKind.i64.wrap ((i : Int) + (n : Int)))) (by rw [ein])
  refine Exists.intro (i : Int) (And.intro (by rw [ad1]; exact hw1.c1) (And.intro ⟨_, by rw [ad1]; exact hw1.c1⟩ (And.intro (by rw [ad1]; exact hw1.fz 1) ?_)))
  replace hput : Rf (w.drew.setCell ((⟨g, 0, none⟩ : Addr).add 1) (.int .i64 (IntKind.i64.wrap ((i : Int) + (n : Int))))) g A c bs (i + n) := by rw [ad1]; exact hput
  have mm : Mod (fun b => b = g) w (w.drew.setCell ((⟨g, 0, none⟩ : Addr).add 1) (.int .i64 (IntKind.i64.wrap ((i : Int) + (n : Int))))) := by rw [ad1]; exact Mod.trans (New.drew w).mod hmod fun _ _ h => h
  have hs1 := mm.size
  refine draw_ ok (.q 1 (.q 2 (.q 3 (.q 4 (.q 5 (.q 6 (.q 7 (.q 8 (.q 9 (.q 10 (.q 11 (.q 12 (.q 13 (.q 14 (.q 15 (.e 0 (.e 16 (.q 17 (.q 18 .done))))))))))))))))))) [18] (New (w.drew.setCell ((⟨g, 0, none⟩ : Addr).add 1) (.int .i64 (IntKind.i64.wrap ((i : Int) + (n : Int)))))) (by kernel_rfl) (by kernel_rfl) (by kernel_rfl) (by kernel_rfl) (by kernel_rfl) (New.drew _) ?_
  refine Exists.intro A (Exists.intro bs.length (Exists.intro c (And.intro (fun w'' hw => by rw [ad1 g 0]; exact hw.cell hput.c0) ?_)))
  refine Exists.intro ((i + n : Nat) : Int) (And.intro (fun w'' hw => by have := hw.cell hput.c1; rw [← ad1] at this; exact this) ?_)
  refine Exists.intro ((i + n : Nat) : Int) (And.intro (fun w'' hw => by have := hw.cell hput.c1; rw [← ad1] at this; exact this) ?_)
  refine And.intro (by rw [eout]; omega) (And.intro (by rw [eout]; omega) (And.intro (by omega) ?_))
  have n3 : New (w.drew.setCell ((⟨g, 0, none⟩ : Addr).add 1) (.int .i64 (IntKind.i64.wrap ((i : Int) + (n : Int))))) ((w.drew.setCell ((⟨g, 0, none⟩ : Addr).add 1) (.int .i64 (IntKind.i64.wrap ((i : Int) + (n : Int))))).drew.alloc (.cells #[] 5)) := (New.drew (w.drew.setCell ((⟨g, 0, none⟩ : Addr).add 1) (.int .i64 (IntKind.i64.wrap ((i : Int) + (n : Int)))))).trans (New.alloc _ _)
  refine Exists.intro (New (w.drew.setCell ((⟨g, 0, none⟩ : Addr).add 1) (.int .i64 (IntKind.i64.wrap ((i : Int) + (n : Int)))))) (And.intro (fun _ h => h) (And.intro n3 ?_))
  refine eff_app rfl rfl (fun _ _ => rfl) ?_
  have hcut := row_cut (hput.row.new n3) hb i n
  refine append2_ ok rfl rfl rfl rfl (own_lit (w.drew.setCell ((⟨g, 0, none⟩ : Addr).add 1) (.int .i64 (IntKind.i64.wrap ((i : Int) + (n : Int))))).drew [] 5 1 0 w.heap.size hs1 rfl (by omega)) rfl rfl (news := bvs ((bs.drop i).take n)) (by rw [eout, Int.toNat_natCast]; exact hcut) (by rw [bvs_length, hlc, eout]; exact (show n = ((i + n : Nat) : Int).toNat - (i : Int).toNat by omega).trans (Nat.mul_one _).symm) (bvs_one _) (by decide) rfl (by rw [eout]; show (0 + (((i + n : Nat) : Int).toNat - (i : Int).toNat)) * 1 ≤ _; omega) (by rw [eout]; omega) (by simp) ?_
  intro A' c' w' hown hmod2 hst
  have nw : New (w.drew.setCell ((⟨g, 0, none⟩ : Addr).add 1) (.int .i64 (IntKind.i64.wrap ((i : Int) + (n : Int))))) w' := Mod.trans n3 hmod2 (by
    intro b hb e
    simp only [Value.ownBlock, Option.some.injEq] at e
    subst e
    exact absurd hb (Nat.lt_irrefl _))
  refine Exists.intro (New (w.drew.setCell ((⟨g, 0, none⟩ : Addr).add 1) (.int .i64 (IntKind.i64.wrap ((i : Int) + (n : Int)))))) (And.intro (fun _ h => h) (And.intro nw ?_))
  have el : 0 + (((i + n : Nat) : Int).toNat - (IntKind.i64.wrap (((i + n : Nat) : Int) - (n : Int))).toNat) = ((bs.drop i).take n).length := by rw [eout, hlc]; omega
  rw [el] at hown
  refine ⟨_, rfl, ?_, hput.new nw, Mod.trans mm nw (fun _ _ h => h.elim)⟩
  have e0 : ([] : List Value) ++ bvs ((bs.drop i).take n) = bvs ((bs.drop i).take n) := rfl
  rw [e0] at hown
  have e2 : (Value.slice A' (0 + (((i + n : Nat) : Int).toNat - (IntKind.i64.wrap (((i + n : Nat) : Int) - (n : Int))).toNat)) c') = .slice A' ((bs.drop i).take n).length c' := by rw [el]
  exact e2 ▸ hown
end Go.Proofs.Yteanhakkceancaa.Word
