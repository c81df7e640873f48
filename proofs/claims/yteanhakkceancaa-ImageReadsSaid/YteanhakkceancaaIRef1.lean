/- The document's answer for machines, walked: its reader. Printed by genref.py. -/
import Derived.Test.YteanhakkceancaaIWalk3
import Derived.Test.YteanhakkceancaaWRef3
namespace Go.Proofs.Yteanhakkceancaa.Image
open Go Go.Proofs.Yteanhakkceancaa Go.Proofs.Yteanhakkceancaa.Eng Go.Proofs Go.Proofs.Yteanhakkceancaa.Word Go.Proofs.Yteanhakkceancaa.Fmt
open Go.Proofs.Yteanhakkceancaa.Pool (RS both own_low)
set_option maxRecDepth 10000
/-- The document's reader in memory. -/
structure Rg (w : World) (g : Nat) (A : Option Addr) (c : Nat) (bs : List UInt8) (i : Nat) (z : Bool) : Prop where
  blk : w.heap[g]? = some (.cells #[.slice A bs.length c, .int .i64 i, .bool z] 100 (0, 0))
  row : Row w A (bvs bs)
  off : bs ≠ [] → ∀ a, A = some a → a.block ≠ g
  at_ : i ≤ bs.length
  cap : bs.length ≤ c
  top : c ≤ 9223372036854775807
theorem Rg.c0 {w : World} {g : Nat} {A : Option Addr} {c : Nat} {bs : List UInt8} {i : Nat} {z : Bool} (h : Rg w g A c bs i z) : w.cell? ⟨g, 0, none⟩ = some (.slice A bs.length c) := by
  rw [cell_of_row _ _ 0 _ _ _ h.blk]; rfl
theorem Rg.c1 {w : World} {g : Nat} {A : Option Addr} {c : Nat} {bs : List UInt8} {i : Nat} {z : Bool} (h : Rg w g A c bs i z) : w.cell? ⟨g, 1, none⟩ = some (.int .i64 i) := by
  rw [cell_of_row _ _ 1 _ _ _ h.blk]; rfl
theorem Rg.new {w w' : World} {g : Nat} {A : Option Addr} {c : Nat} {bs : List UInt8} {i : Nat} {z : Bool} (h : Rg w g A c bs i z) (k : New w w') : Rg w' g A c bs i z :=
  ⟨k.blk h.blk, h.row.new k, h.off, h.at_, h.cap, h.top⟩
theorem Rg.mod {S : Nat → Prop} {w w' : World} {g : Nat} {A : Option Addr} {c : Nat} {bs : List UInt8} {i : Nat} {z : Bool} (h : Rg w g A c bs i z) (k : Mod S w w') (hg : ¬ S g) (ha : bs ≠ [] → ∀ a, A = some a → ¬ S a.block) : Rg w' g A c bs i z :=
  ⟨k.blk h.blk hg, row_mod2 k h.row ha, h.off, h.at_, h.cap, h.top⟩
theorem Rg.lt {w : World} {g : Nat} {A : Option Addr} {c : Nat} {bs : List UInt8} {i : Nat} {z : Bool} (h : Rg w g A c bs i z) : g < w.heap.size := (Array.getElem?_eq_some_iff.1 h.blk).1
theorem Rg.put {w : World} {g : Nat} {A : Option Addr} {c : Nat} {bs : List UInt8} {i : Nat} {z : Bool} (h : Rg w g A c bs i z) {j : Nat} (hj : j ≤ bs.length) {v : Value} (hv : v = .int .i64 j) :
    Rg (w.setCell ⟨g, 1, none⟩ v) g A c bs j z ∧ Mod (fun k => k = g) w (w.setCell ⟨g, 1, none⟩ v) := by
  subst hv
  have m := Mod.set w ⟨g, 1, none⟩ (.int .i64 j)
  refine ⟨⟨?_, row_mod2 m h.row (fun hb a ha => h.off hb a ha), h.off, hj, h.cap, h.top⟩, m⟩
  have := heap_setCell_same w g 1 _ _ (.int .i64 (j : Int)) h.blk
  rw [this]
  rfl
theorem Rg.fz {w : World} {g : Nat} {A : Option Addr} {c : Nat} {bs : List UInt8} {i : Nat} {z : Bool} (h : Rg w g A c bs i z) (j : Nat) : w.frozen? ⟨g, j, none⟩ = false := frozen_of_row w g j _ _ h.blk

theorem jGet_ok (g : Nat) (A : Option Addr) (c : Nat) (bs : List UInt8) (i : Nat) (z : Bool) (k : Int) (sign : Bool) (w : World) (h : Rg w g A c bs i z) :
    Calls Try.prog 74 #[.pointer (some ⟨g, 0, none⟩), .int .i64 k, .bool sign] w fun e w' => e = .returned (.tuple #[.int .i64 (Word.get sign bs i k).1, .int .i64 (Word.get sign bs i k).2.1]) ∧ Rg w' g A c bs (Word.get sign bs i k).2.2 z ∧ Mod (fun b => b = g) w w' := by
  refine enter ok Try.func74 rfl rfl rfl ?_
  refine call_ (refwide_ok k w) ?_
  rintro e w' ⟨rfl, rfl⟩
  refine ⟨_, rfl, ?_⟩
  have ha := h.at_
  have hb := h.cap
  have hc := h.top
  refine if_ (fun hwk => ?_) (fun hwk => ?_)
  · rw [get_unwide (by simpa using hwk)]
    exact ⟨rfl, h, Mod.refl _ _⟩
  replace hwk : wide k = true := by simpa using hwk
  have hk := wide_cases hwk
  obtain ⟨n, rfl⟩ : ∃ n : Nat, k = n := ⟨k.toNat, by omega⟩
  refine draw_ ok (.q 0 (.q 1 (.q 2 (.q 3 (.q 4 (.q 5 (.q 6 (.q 7 (.q 8 (.q 9 (.q 10 (.q 11 .done)))))))))))) [11] (New w') (by kernel_rfl) (by kernel_rfl) (by kernel_rfl) (by kernel_rfl) (by kernel_rfl) (New.drew w') ?_
  refine Exists.intro A (Exists.intro bs.length (Exists.intro c (And.intro (fun w'' hw => by rw [ad1]; exact hw.cell h.c0) ?_)))
  refine Exists.intro (i : Int) (And.intro (fun w'' hw => by rw [ad1]; exact hw.cell h.c1) ?_)
  have hw1 := h.new (New.drew w')
  have esub : IntKind.i64.wrap ((bs.length : Int) - (i : Int)) = (bs.length : Int) - i := wrap_i64 (by omega) (by omega)
  refine if_p (fun hl => ?_) (fun hl => ?_)
  · rw [esub] at hl
    rw [get_short hwk hl]
    exact ⟨rfl, hw1, (New.drew _).mod⟩
  rw [esub] at hl
  have hin : i + n ≤ bs.length := by omega
  obtain ⟨g1, g2⟩ := Word.get_num sign bs i n hwk hin
  have ein : IntKind.i64.wrap ((i : Int) + (n : Int)) = ((i + n : Nat) : Int) := by
    rw [wrap_i64 (by omega) (by omega)]
    omega
  have hlc : ((bs.drop i).take n).length = n := by rw [List.length_take, List.length_drop]; omega
  refine draw_ ok (.q 0 (.q 1 (.q 2 (.q 3 (.q 4 (.q 5 (.q 6 (.q 7 (.q 8 (.q 9 (.q 10 (.q 11 (.q 12 (.q 13 (.q 14 (.q 15 (.e 16 (.q 17 (.q 18 (.q 19 (.q 20 (.q 21 .done)))))))))))))))))))))) [21] (New w'.drew) (by kernel_rfl) (by kernel_rfl) (by kernel_rfl) (by kernel_rfl) (by kernel_rfl) (New.drew _) ?_
  refine Exists.intro A (Exists.intro bs.length (Exists.intro c (And.intro (fun w'' hw => by rw [ad1]; exact hw.cell hw1.c0) ?_)))
  refine Exists.intro (i : Int) (And.intro (fun w'' hw => by rw [ad1]; exact hw.cell hw1.c1) ?_)
  refine Exists.intro (i : Int) (And.intro (fun w'' hw => by rw [ad1]; exact hw.cell hw1.c1) ?_)
  refine And.intro (by omega) (And.intro (by rw [ein]; omega) (And.intro (by rw [ein]; omega) ?_))
  have hw2 := hw1.new (New.drew _)
  have nn : New w' w'.drew.drew := (New.drew _).trans (New.drew _)
  refine call_ (Number_ok (slA A c i 1) _ _ ((bs.drop i).take n) sign w'.drew.drew (by rw [ein, hlc]; omega) (row_cut hw2.row hb i n) (by rw [hlc]; exact hwk)) ?_
  rintro e w3 ⟨rfl, rfl⟩
  refine ⟨_, rfl, ?_⟩
  refine Exists.intro (New w'.drew) (And.intro (fun _ h => h) (And.intro (New.drew _) ?_))
  generalize (Word.num sign ((bs.drop i).take n)).1 = r1 at g1 g2
  generalize (Word.num sign ((bs.drop i).take n)).2 = r2 at g1 g2
  refine if_n (fun hne => ?_) (fun he => ?_)
  · rw [g2 hne]
    exact ⟨rfl, hw2, nn.mod⟩
  · rw [g1 he]
    obtain ⟨hput, hmod⟩ := hw2.put (j := i + n) hin (v := .int .i64 (IntKind.i64.wrap ((i : Int) + (n : Int)))) (by rw [ein])
    refine Exists.intro (i : Int) (And.intro (by rw [ad1]; exact hw2.c1) (And.intro ⟨_, by rw [ad1]; exact hw2.c1⟩ (And.intro (by rw [ad1]; exact hw2.fz 1) ⟨rfl, ?_, ?_⟩)))
    · rw [ad1]
      exact hput
    · rw [ad1]
      exact Mod.trans nn.mod hmod fun _ _ h => h

theorem jBytes_ok (g : Nat) (A : Option Addr) (c : Nat) (bs : List UInt8) (i : Nat) (z : Bool) (k : Int) (w : World) (h : Rg w g A c bs i z) (hm : bs.length ≤ 140737488355328) :
    Calls Try.prog 75 #[.pointer (some ⟨g, 0, none⟩), .int .i64 k] w fun e w' => ∃ v, e = .returned (.tuple #[v, .int .i64 (getB bs i k).2.1]) ∧ w'.ownsRow w.heap.size 5 1 v (getB bs i k).1.length (bvs (getB bs i k).1) ∧ Rg w' g A c bs (getB bs i k).2.2 z ∧ Mod (fun b => b = g) w w' := by
  refine enter ok Try.func75 rfl rfl rfl ?_
  have ha := h.at_
  have hb := h.cap
  have hc := h.top
  have nil : ∀ w' : World, w'.ownsRow w.heap.size 5 1 (.slice none 0 0) 0 (bvs []) := fun _ => ⟨rfl, .inl ⟨rfl, rfl⟩⟩
  refine if_p (fun hneg => ?_) (fun hneg => ?_)
  · have : getB bs i k = ([], 2, i) := by unfold getB; rw [if_pos hneg]
    rw [this]
    exact ⟨_, rfl, nil _, h, Mod.refl _ _⟩
  refine draw_ ok (.q 0 (.q 1 (.q 2 (.q 3 (.q 4 (.q 5 (.q 6 (.q 7 (.q 8 (.q 9 (.q 10 (.q 11 .done)))))))))))) [11] (New w) (by kernel_rfl) (by kernel_rfl) (by kernel_rfl) (by kernel_rfl) (by kernel_rfl) (New.drew w) ?_
  refine Exists.intro A (Exists.intro bs.length (Exists.intro c (And.intro (fun w'' hw => by rw [ad1]; exact hw.cell h.c0) ?_)))
  refine Exists.intro (i : Int) (And.intro (fun w'' hw => by rw [ad1]; exact hw.cell h.c1) ?_)
  have hw1 := h.new (New.drew w)
  have esub : IntKind.i64.wrap ((bs.length : Int) - (i : Int)) = (bs.length : Int) - i := wrap_i64 (by omega) (by omega)
  refine if_p (fun hl => ?_) (fun hl => ?_)
  · rw [esub] at hl
    have : getB bs i k = ([], 7, i) := by unfold getB; rw [if_neg hneg, if_pos hl]
    rw [this]
    exact ⟨_, rfl, nil _, hw1, (New.drew _).mod⟩
  rw [esub] at hl
  obtain ⟨n, rfl⟩ : ∃ n : Nat, k = n := ⟨k.toNat, by omega⟩
  have hin : i + n ≤ bs.length := by omega
  have hgb : getB bs i n = ((bs.drop i).take n, 0, i + n) := by unfold getB; rw [if_neg hneg, if_neg hl, Int.toNat_natCast]
  rw [hgb]
  have hlc : ((bs.drop i).take n).length = n := by rw [List.length_take, List.length_drop]; omega
  have ein : IntKind.i64.wrap ((i : Int) + (n : Int)) = ((i + n : Nat) : Int) := by
    rw [wrap_i64 (by omega) (by omega)]
    omega
  have eout : IntKind.i64.wrap (((i + n : Nat) : Int) - (n : Int)) = (i : Int) := by
    rw [wrap_i64 (by omega) (by omega)]
    omega
  obtain ⟨hput, hmod⟩ := hw1.put (j := i + n) hin (v := .int .i64 (IntKind.i64.wrap ((i : Int) + (n : Int)))) (by rw [ein])
  refine Exists.intro (i : Int) (And.intro (by rw [ad1]; exact hw1.c1) (And.intro ⟨_, by rw [ad1]; exact hw1.c1⟩ (And.intro (by rw [ad1]; exact hw1.fz 1) ?_)))
  replace hput : Rg (w.drew.setCell ((⟨g, 0, none⟩ : Addr).add 1) (.int .i64 (IntKind.i64.wrap ((i : Int) + (n : Int))))) g A c bs (i + n) z := by rw [ad1]; exact hput
  have mm : Mod (fun b => b = g) w (w.drew.setCell ((⟨g, 0, none⟩ : Addr).add 1) (.int .i64 (IntKind.i64.wrap ((i : Int) + (n : Int))))) := by rw [ad1]; exact Mod.trans (New.drew w).mod hmod fun _ _ h => h
  have hs1 := mm.size
  refine draw_ ok (.q 1 (.q 2 (.q 3 (.q 4 (.q 5 (.q 6 (.q 7 (.q 8 (.q 9 (.q 10 (.q 11 (.q 12 (.q 13 (.q 14 (.q 15 (.e 0 (.e 16 (.q 17 (.q 18 .done))))))))))))))))))) [18] (New (w.drew.setCell ((⟨g, 0, none⟩ : Addr).add 1) (.int .i64 (IntKind.i64.wrap ((i : Int) + (n : Int)))))) (by kernel_rfl) (by kernel_rfl) (by kernel_rfl) (by kernel_rfl) (by kernel_rfl) (New.drew _) ?_
  refine Exists.intro A (Exists.intro bs.length (Exists.intro c (And.intro (fun w'' hw => by rw [ad1 g 0]; exact hw.cell hput.c0) ?_)))
  refine Exists.intro ((i + n : Nat) : Int) (And.intro (fun w'' hw => by have := hw.cell hput.c1; rw [← ad1] at this; exact this) ?_)
  refine Exists.intro ((i + n : Nat) : Int) (And.intro (fun w'' hw => by have := hw.cell hput.c1; rw [← ad1] at this; exact this) ?_)
  refine And.intro (by rw [eout]; omega) (And.intro (by rw [eout]; omega) (And.intro (by omega) ?_))
  have n3 : New (w.drew.setCell ((⟨g, 0, none⟩ : Addr).add 1) (.int .i64 (IntKind.i64.wrap ((i : Int) + (n : Int))))) ((w.drew.setCell ((⟨g, 0, none⟩ : Addr).add 1) (.int .i64 (IntKind.i64.wrap ((i : Int) + (n : Int))))).drew.alloc (.cells #[] 5)) := (New.drew (w.drew.setCell ((⟨g, 0, none⟩ : Addr).add 1) (.int .i64 (IntKind.i64.wrap ((i : Int) + (n : Int)))))).trans (New.alloc _ _)
  refine Exists.intro (New (w.drew.setCell ((⟨g, 0, none⟩ : Addr).add 1) (.int .i64 (IntKind.i64.wrap ((i : Int) + (n : Int)))))) (And.intro (fun _ h => h) (And.intro n3 ?_))
  refine eff_app rfl rfl (fun _ _ => rfl) ?_
  have hcut := row_cut (hput.row.new n3) hb i n
  refine append2_ ok rfl rfl rfl rfl (own_lit (w.drew.setCell ((⟨g, 0, none⟩ : Addr).add 1) (.int .i64 (IntKind.i64.wrap ((i : Int) + (n : Int))))).drew [] 5 1 0 w.heap.size hs1 rfl (by omega)) rfl rfl (news := bvs ((bs.drop i).take n)) (by rw [eout, Int.toNat_natCast]; exact hcut) (by rw [bvs_length, hlc, eout]; exact (show n = ((i + n : Nat) : Int).toNat - (i : Int).toNat by omega).trans (Nat.mul_one _).symm) (bvs_one _) (by decide) rfl (by rw [eout]; show (0 + (((i + n : Nat) : Int).toNat - (i : Int).toNat)) * 1 ≤ _; omega) (by rw [eout]; omega) (by simp) ?_
  intro A' c' w' hown hmod2 hst
  have nw : New (w.drew.setCell ((⟨g, 0, none⟩ : Addr).add 1) (.int .i64 (IntKind.i64.wrap ((i : Int) + (n : Int))))) w' := Mod.trans n3 hmod2 (by
    intro b hb e
    simp only [Value.ownBlock, Option.some.injEq] at e
    subst e
    exact absurd hb (Nat.lt_irrefl _))
  refine Exists.intro (New (w.drew.setCell ((⟨g, 0, none⟩ : Addr).add 1) (.int .i64 (IntKind.i64.wrap ((i : Int) + (n : Int)))))) (And.intro (fun _ h => h) (And.intro nw ?_))
  have el : 0 + (((i + n : Nat) : Int).toNat - (IntKind.i64.wrap (((i + n : Nat) : Int) - (n : Int))).toNat) = ((bs.drop i).take n).length := by rw [eout, hlc]; omega
  rw [el] at hown
  refine ⟨_, rfl, ?_, hput.new nw, Mod.trans mm nw (fun _ _ h => h.elim)⟩
  have e0 : ([] : List Value) ++ bvs ((bs.drop i).take n) = bvs ((bs.drop i).take n) := rfl
  rw [e0] at hown
  have e2 : (Value.slice A' (0 + (((i + n : Nat) : Int).toNat - (IntKind.i64.wrap (((i + n : Nat) : Int) - (n : Int))).toNat)) c') = .slice A' ((bs.drop i).take n).length c' := by rw [el]
  exact e2 ▸ hown
/-! ### The reader of machines -/
abbrev Jr (w : World) (g : Nat) (A : Option Addr) (c : Nat) (bs : List UInt8) (s : RSt) : Prop := Rg w g A c bs s.1 s.2
theorem Rg.modN {S : Nat → Prop} {w w' : World} {g : Nat} {A : Option Addr} {c : Nat} {bs : List UInt8} {i : Nat} {z : Bool} (h : Rg w g A c bs i z) (k : Mod S w w') (hg : ¬ S g) (ha : bs ≠ [] → ∀ a, A = some a → ¬ S a.block) : Rg w' g A c bs i z := h.mod k hg ha
theorem Rg.low {w : World} {g : Nat} {A : Option Addr} {c : Nat} {bs : List UInt8} {i : Nat} {z : Bool} (h : Rg w g A c bs i z) : bs ≠ [] → ∀ a, A = some a → a.block < w.heap.size := fun hn a ha => Word.row_low h.row a ha hn
theorem Rg.set {w w' : World} {g : Nat} {A : Option Addr} {c : Nat} {bs : List UInt8} {i : Nat} {z : Bool} (h : Rg w g A c bs i z) (m : Mod (fun b => b = g) w w') {b : Bool} (hb : w'.heap[g]? = some (.cells #[.slice A bs.length c, .int .i64 i, .bool b] 100 (0, 0))) : Rg w' g A c bs i b :=
  ⟨hb, row_mod2 m h.row (fun hn a ha => h.off hn a ha), h.off, h.at_, h.cap, h.top⟩
theorem ones : ∀ {l : List Value}, (l.all fun v => v.oneCell') = true → ∀ u ∈ l, u.oneCell' = true := fun h u hu => List.all_eq_true.1 h u hu
theorem rget_ok (g : Nat) (A : Option Addr) (c : Nat) (bs : List UInt8) (s : RSt) (sign : Bool) (k : Nat) (hk : wide (k : Int) = true) (w : World) (p : Jr w g A c bs s) :
    Calls Try.prog 52 #[.pointer (some ⟨g, 0, none⟩), .int .i64 (k : Int), .bool sign] w fun e w' => ∃ n s', e = .returned (zi n) ∧ Reads bs (num k sign hk) s n s' ∧ (k = 1 ∨ k = 2 ∨ k = 4 → -2147483648 ≤ n ∧ n ≤ 4294967295) ∧ Jr w' g A c bs s' ∧ Mod (fun b => b = g) w w' := by
  obtain ⟨i, b⟩ := s
  have hat := p.at_
  refine enter ok Try.func52 rfl rfl rfl ?_
  refine Exists.intro b (And.intro (cellB p.blk rfl) ?_)
  refine if_ (fun hne => ?_) (fun h0 => ?_)
  · exact ⟨0, (i, b), rfl, Reads.bad hne hat 0, fun _ => by decide, p, (New.refl w).mod⟩
  subst h0
  refine call_ (jGet_ok g A c bs i false k sign w p) ?_
  rintro e w4 ⟨rfl, p4, m4⟩
  refine ⟨_, rfl, ?_⟩
  have hb4 := p4.blk
  refine And.intro ⟨_, cellB hb4 rfl⟩ (And.intro (fzB hb4 _) (force_ ?_))
  refine stK hb4 (show (2 : Nat) < 3 by decide) ?_
  intro w5 hb5 m5 s5
  exact ⟨_, _, rfl, Reads.num sign hk i hat, fun h => get_bound sign bs i k h, p4.set m5 hb5, both m4 m5⟩
theorem rnumber_ok (g : Nat) (A : Option Addr) (c : Nat) (bs : List UInt8) (s : RSt) (w : World) (p : Jr w g A c bs s) :
    Calls Try.prog 49 #[.pointer (some ⟨g, 0, none⟩)] w fun e w' => ∃ n s', e = .returned (zi n) ∧ Reads bs n8 s n s' ∧ Jr w' g A c bs s' ∧ Mod (fun b => b = g) w w' := by
  refine enter ok Try.func49 rfl rfl rfl ?_
  refine call_ (rget_ok g A c bs s true 8 w8 w p) ?_
  rintro e w1 ⟨n, s1, rfl, rd1, _, p1, m1⟩
  refine ⟨_, rfl, ?_⟩
  exact ⟨n, s1, rfl, rd1, p1, m1⟩
theorem rtext_ok (g : Nat) (A : Option Addr) (c : Nat) (bs : List UInt8) (s : RSt) (w : World) (p : Jr w g A c bs s) (hm : bs.length ≤ 1000000000) :
    Calls Try.prog 53 #[.pointer (some ⟨g, 0, none⟩)] w fun e w' => ∃ (x : List UInt8) (s' : RSt), e = .returned (.string ⟨x.toArray⟩) ∧ Reads bs tyF s x s' ∧ Jr w' g A c bs s' ∧ Mod (fun b => b = g) w w' := by
  refine enter ok Try.func53 rfl rfl rfl ?_
  refine call_ (rget_ok g A c bs s false 2 w2 w p) ?_
  rintro e w1 ⟨n, s1, rfl, rd1, _, p1, m1⟩
  refine ⟨_, rfl, ?_⟩
  have hb1 := p1.blk
  refine Exists.intro s1.2 (And.intro (cellB hb1 rfl) ?_)
  refine if_ (fun hz => ?_) (fun hz => ?_)
  · refine And.intro ⟨_, cellB hb1 rfl⟩ (And.intro (fzB hb1 _) (force_ ?_))
    refine stK hb1 (show (2 : Nat) < 3 by decide) ?_
    intro w2 hb2 m2 s2
    exact ⟨[], (s1.1, true), rfl, ty_bad rd1 (.inl hz), p1.set m2 hb2, both m1 m2⟩
  refine if_p (fun hn => ?_) (fun hn => ?_)
  · refine And.intro ⟨_, cellB hb1 rfl⟩ (And.intro (fzB hb1 _) (force_ ?_))
    refine stK hb1 (show (2 : Nat) < 3 by decide) ?_
    intro w2 hb2 m2 s2
    exact ⟨[], (s1.1, true), rfl, ty_bad rd1 (.inr hn), p1.set m2 hb2, both m1 m2⟩
  replace hn : ¬ 255 < n := hn
  have hs0 : s.2 = false := by
    cases hs : s.2 with
    | false => rfl
    | true => rw [rd1.stays hs] at hz; cases hz
  have rty := ty_read rd1 hz (by omega) hs0
  refine call_ (jBytes_ok g A c bs s1.1 s1.2 n w1 p1 (by omega)) ?_
  rintro e w2 ⟨v2, rfl, own2, p2, m2⟩
  obtain ⟨A2, c2, rfl, _, _, row2, ho2⟩ := own_slice own2
  refine ⟨_, rfl, ?_⟩
  have hb2 := p2.blk
  have hg := p.lt
  have m1z := m1.size
  refine And.intro ⟨_, cellB hb2 rfl⟩ (And.intro (fzB hb2 _) (force_ ?_))
  refine stK hb2 (show (2 : Nat) < 3 by decide) ?_
  intro w3 hb3 m3 s3
  refine Exists.intro (getB bs s1.1 n).1 (And.intro rfl (And.intro (row2.mod m3 fun a ha e => by have := (ho2 a ha).1; omega) ?_))
  exact ⟨_, _, rfl, rty, p2.set m3 hb3, both (both m1 m2) m3⟩
abbrev w1' := Image.w1

theorem rints_ok (g : Nat) (A : Option Addr) (c : Nat) (bs : List UInt8) (s : RSt) (w : World) (p : Jr w g A c bs s) (hm : bs.length ≤ 1000000000) :
    Calls Try.prog 50 #[.pointer (some ⟨g, 0, none⟩)] w fun e w' => ∃ v xs s', e = .returned v ∧ LRep intR w' (fun b => b < w.heap.size) v xs ∧ Reads bs (list 4 w4 n8) s xs s' ∧ Jr w' g A c bs s' ∧ Mod (fun b => b = g) w w' := by
  refine enter ok Try.func50 rfl rfl rfl ?_
  have hg := p.lt
  refine seq_assign ?_
  refine seq_cut (σ := Unit) (fun _ => [(0, .pointer (some ⟨g, 0, none⟩)), (3, .slice (some ⟨w.heap.size, 0, none⟩) 0 0)]) (fun _ w' => New w w' ∧ w'.ownsRow w.heap.size 3 1 (.slice (some ⟨w.heap.size, 0, none⟩) 0 0) 0 (cellsOf ([] : List (List Value × Int)))) ?_ ?_
  rotate_left
  · intro K hK
    exact hK () _ _ ⟨rfl, rfl, trivial⟩ ⟨New.alloc w _, own_lit w [] 3 1 0 w.heap.size (Nat.le_refl _) rfl (by omega)⟩
  rintro _ wz frz ⟨nz, ownz⟩
  refine seq_cut (σ := (Option Addr × Nat) × List (List Value × Int)) (fun t => [(3, .slice t.1.1 t.2.length t.1.2)]) (fun t w' => ∃ s', LRep intR w' (fun b => b < w.heap.size) (.slice t.1.1 t.2.length t.1.2) (t.2.map (·.2)) ∧ Reads bs (list 4 w4 n8) s (t.2.map (·.2)) s' ∧ Jr w' g A c bs s' ∧ Mod (fun b => b = g) w w') ?_ ?_
  · rintro t w1 fr1 ⟨s', h1, h2, h3, h4⟩
    exact ⟨_, _, s', rfl, h1, h2, h3, h4⟩
  intro K hK
  refine seq_cut (σ := Int) (fun n => [(0, .pointer (some ⟨g, 0, none⟩)), (3, .slice (some ⟨w.heap.size, 0, none⟩) 0 0), (4, zi n)]) (fun n w' => ∃ s1, Reads bs (num 4 false w4) s n s1 ∧ n ≤ 4294967295 ∧ Jr w' g A c bs s1 ∧ Mod (fun b => b = g) wz w') ?_ ?_
  rotate_left
  · intro K2 hK2
    refine call_ (rget_ok g A c bs s false 4 w4 wz (p.new nz)) ?_
    rintro e w1 ⟨n, s1, rfl, rd1, hb, p1, m1⟩
    refine ⟨_, rfl, ?_⟩
    exact hK2 n _ _ ⟨rfl, rfl, rfl, trivial⟩ ⟨s1, rd1, (hb (.inr (.inr rfl))).2, p1, m1⟩
  rintro n w1 fr1 ⟨s1, rd1, hn, p1, m1⟩
  have own1 := own_mod m1 ownz (fun b hb e => by cases hb; exact absurd e (Nat.ne_of_gt hg))
  refine den_loop (σ := ((Option Addr × Nat) × List (List Value × Int)) × Int × RSt) (fun t => [(0, .pointer (some ⟨g, 0, none⟩)), (3, .slice t.1.1.1 t.1.2.length t.1.1.2), (4, zi t.2.1)])
    (fun m t wl => m = t.2.1.toNat ∧ LInv bs n8 s (t.1.2.map (·.2)) t.2.1.toNat t.2.2 ∧ t.2.1.toNat + t.1.2.length ≤ 4294967296 ∧ t.2.1 ≤ 4294967295 ∧ Jr wl g A c bs t.2.2 ∧ Mod (fun b => b = g) w wl ∧ wl.ownsRow w.heap.size 3 1 (.slice t.1.1.1 t.1.2.length t.1.1.2) t.1.2.length (cellsOf t.1.2) ∧
      ∀ y ∈ t.1.2, intR wl (fun b => b < w.heap.size ∨ some b = (Value.slice t.1.1.1 t.1.2.length t.1.1.2).ownBlock) y.1 y.2) n.toNat (((some ⟨w.heap.size, 0, none⟩, 0), []), n, s1)
    ⟨rfl, rfl, rfl, trivial⟩ ⟨rfl, LInv.start rd1, by simp; omega, hn, p1, both nz.mod m1, own1, fun _ h => (by cases h)⟩ ?_
  rintro m ⟨⟨⟨Al, cl⟩, ts⟩, q, s2⟩ wl frl ⟨rfl, hinv, hcnt, hq, pl, kl, own, hts⟩
  dsimp only at hinv hcnt hq pl own hts
  have hown := fun b (e : (Value.slice Al ts.length cl).ownBlock = some b) => own.lt b e
  have klz := kl.size
  have fin : (s2.2 = false → q.toNat = 0) → ∃ s', LRep intR wl (fun b => b < w.heap.size) (.slice Al ts.length cl) (ts.map (·.2)) ∧ Reads bs (list 4 w4 n8) s (ts.map (·.2)) s' ∧ Jr wl g A c bs s' ∧ Mod (fun b => b = g) w wl := fun hz => by
    obtain ⟨A', c', e', h5, h6, row, ho⟩ := own_slice own
    cases e'
    exact ⟨s2, ⟨Al, cl, ts, by rw [List.length_map], rfl, by rw [List.length_map]; exact h5, h6, by rw [List.length_map]; omega, row, fun a ha _ => ⟨(ho a ha).2.1, by have := (ho a ha).1; omega⟩, fun t ht => intOk.weak (hts t ht) fun b _ hb => .inl hb⟩, hinv.done hz, pl, kl⟩
  refine if_p (fun hlt => ?_) (fun hge => ?_)
  · replace hlt : 0 < q := hlt
    refine Exists.intro s2.2 (And.intro (cellB pl.blk rfl) ?_)
    refine if_ (fun hz => ?_) (fun hz => ?_)
    · replace hz : s2.2 = false := by simpa using hz
      obtain ⟨k, hk⟩ : ∃ k, q.toNat = k + 1 := ⟨q.toNat - 1, by omega⟩
      rw [hk] at hinv
      have hk' : (q - 1).toNat = k := by omega
      refine call_ (rnumber_ok g A c bs s2 wl pl) ?_
      rintro e w5 ⟨x, s5, rfl, rd5, p5, m5⟩
      refine ⟨_, rfl, ?_⟩
      have hx0 : intR w5 (fun b => b < wl.heap.size) [zi x] x := rfl
      have m5z := m5.size
      have hnR : ∀ b, w.heap.size ≤ b → ¬ b = g := fun b hb e => by omega
      have own5 := own_mod m5 own (fun b hb => hnR b (hown b hb).1)
      have n6 := New.alloc w5 (.cells [zi x].toArray 3)
      refine append2_ ok rfl rfl rfl rfl (own_new n6 own5) rfl rfl (row_alloc w5 [zi x] _ _) rfl (intOk.one hx0) (by decide) rfl (by show (ts.length + 1) * 8 ≤ _; omega) (by omega) (Nat.le_trans (by omega) n6.size) ?_
      intro A7 c7 w7 own7 mod7 st7
      have k57 : Mod (fun b => some b = (Value.slice Al ts.length cl).ownBlock) w5 w7 := Mod.trans n6.mod mod7 fun _ _ e => e
      have hl : (ts ++ [([zi x], (x : Int))]).length = ts.length + 1 := by simp
      have st : ∀ b, some b = (Value.slice A7 (ts.length + 1) c7).ownBlock → some b = (Value.slice Al ts.length cl).ownBlock ∨ w5.heap.size ≤ b := fun b e => by
        rcases st7 b e.symm with e | e
        · exact .inl e.symm
        · exact .inr (Nat.le_trans n6.size e)
      have hnew := mem_step (h := g) (g := g) intOk hts hx0 (m5.mono fun _ _ e => .inl e) k57 hg hg klz (fun b e => hown b e.symm) st
      have pow := p5.modN k57 (fun e => by have := hown _ e.symm; omega) (fun hn a ha e => by have := p.low hn a ha; have := hown _ e.symm; omega)
      refine ⟨(q - 1).toNat, (((A7, c7), ts ++ [([zi x], (x : Int))]), q - 1, s5), (by dsimp only; omega), ⟨rfl, (show Value.slice A7 (ts.length + 1) c7 = .slice A7 (ts ++ [([zi x], (x : Int))]).length c7 by rw [hl]), (show zi (IntKind.i64.wrap (q - 1)) = zi (q - 1) by rw [wrap_i64 (by omega) (by omega)]), trivial⟩, rfl, ?_, ?_, by dsimp only; omega, pow, ?_, ?_, ?_⟩
      · dsimp only
        rw [hk', List.map_append]
        exact hinv.step hz rd5
      · dsimp only
        rw [hl]
        omega
      · exact Mod.trans (both kl m5) k57 fun b hb e => by have := hown b e.symm; omega
      · dsimp only
        rw [hl, cellsOf_snoc]
        exact own7
      · dsimp only
        rw [hl]
        exact hnew
    · replace hz : s2.2 = true := by simpa using hz
      exact hK ((Al, cl), ts) _ _ ⟨rfl, trivial⟩ (fin fun h => by rw [hz] at h; cases h)
  · replace hge : ¬ 0 < q := hge
    exact hK ((Al, cl), ts) _ _ ⟨rfl, trivial⟩ (fin fun _ => by omega)
theorem rvalues_ok (g : Nat) (A : Option Addr) (c : Nat) (bs : List UInt8) (s : RSt) (w : World) (p : Jr w g A c bs s) (hm : bs.length ≤ 1000000000) :
    Calls Try.prog 51 #[.pointer (some ⟨g, 0, none⟩)] w fun e w' => ∃ v xs s', e = .returned v ∧ LRep valR w' (fun b => b < w.heap.size) v xs ∧ Reads bs (list 4 w4 valF) s xs s' ∧ Jr w' g A c bs s' ∧ Mod (fun b => b = g) w w' := by
  refine enter ok Try.func51 rfl rfl rfl ?_
  have hg := p.lt
  refine seq_assign ?_
  refine seq_cut (σ := Unit) (fun _ => [(0, .pointer (some ⟨g, 0, none⟩)), (3, .slice (some ⟨w.heap.size, 0, none⟩) 0 0)]) (fun _ w' => New w w' ∧ w'.ownsRow w.heap.size 61 2 (.slice (some ⟨w.heap.size, 0, none⟩) 0 0) 0 (cellsOf ([] : List (List Value × Val)))) ?_ ?_
  rotate_left
  · intro K hK
    exact hK () _ _ ⟨rfl, rfl, trivial⟩ ⟨New.alloc w _, own_lit w [] 61 2 0 w.heap.size (Nat.le_refl _) rfl (by omega)⟩
  rintro _ wz frz ⟨nz, ownz⟩
  refine seq_cut (σ := (Option Addr × Nat) × List (List Value × Val)) (fun t => [(3, .slice t.1.1 t.2.length t.1.2)]) (fun t w' => ∃ s', LRep valR w' (fun b => b < w.heap.size) (.slice t.1.1 t.2.length t.1.2) (t.2.map (·.2)) ∧ Reads bs (list 4 w4 valF) s (t.2.map (·.2)) s' ∧ Jr w' g A c bs s' ∧ Mod (fun b => b = g) w w') ?_ ?_
  · rintro t w1 fr1 ⟨s', h1, h2, h3, h4⟩
    exact ⟨_, _, s', rfl, h1, h2, h3, h4⟩
  intro K hK
  refine seq_cut (σ := Int) (fun n => [(0, .pointer (some ⟨g, 0, none⟩)), (3, .slice (some ⟨w.heap.size, 0, none⟩) 0 0), (4, zi n)]) (fun n w' => ∃ s1, Reads bs (num 4 false w4) s n s1 ∧ n ≤ 4294967295 ∧ Jr w' g A c bs s1 ∧ Mod (fun b => b = g) wz w') ?_ ?_
  rotate_left
  · intro K2 hK2
    refine call_ (rget_ok g A c bs s false 4 w4 wz (p.new nz)) ?_
    rintro e w1 ⟨n, s1, rfl, rd1, hb, p1, m1⟩
    refine ⟨_, rfl, ?_⟩
    exact hK2 n _ _ ⟨rfl, rfl, rfl, trivial⟩ ⟨s1, rd1, (hb (.inr (.inr rfl))).2, p1, m1⟩
  rintro n w1 fr1 ⟨s1, rd1, hn, p1, m1⟩
  have own1 := own_mod m1 ownz (fun b hb e => by cases hb; exact absurd e (Nat.ne_of_gt hg))
  refine den_loop (σ := ((Option Addr × Nat) × List (List Value × Val)) × Int × RSt) (fun t => [(0, .pointer (some ⟨g, 0, none⟩)), (3, .slice t.1.1.1 t.1.2.length t.1.1.2), (4, zi t.2.1)])
    (fun m t wl => m = t.2.1.toNat ∧ LInv bs valF s (t.1.2.map (·.2)) t.2.1.toNat t.2.2 ∧ t.2.1.toNat + t.1.2.length ≤ 4294967296 ∧ t.2.1 ≤ 4294967295 ∧ Jr wl g A c bs t.2.2 ∧ Mod (fun b => b = g) w wl ∧ wl.ownsRow w.heap.size 61 2 (.slice t.1.1.1 t.1.2.length t.1.1.2) t.1.2.length (cellsOf t.1.2) ∧
      ∀ y ∈ t.1.2, valR wl (fun b => b < w.heap.size ∨ some b = (Value.slice t.1.1.1 t.1.2.length t.1.1.2).ownBlock) y.1 y.2) n.toNat (((some ⟨w.heap.size, 0, none⟩, 0), []), n, s1)
    ⟨rfl, rfl, rfl, trivial⟩ ⟨rfl, LInv.start rd1, by simp; omega, hn, p1, both nz.mod m1, own1, fun _ h => (by cases h)⟩ ?_
  rintro m ⟨⟨⟨Al, cl⟩, ts⟩, q, s2⟩ wl frl ⟨rfl, hinv, hcnt, hq, pl, kl, own, hts⟩
  dsimp only at hinv hcnt hq pl own hts
  have hown := fun b (e : (Value.slice Al ts.length cl).ownBlock = some b) => own.lt b e
  have klz := kl.size
  have fin : (s2.2 = false → q.toNat = 0) → ∃ s', LRep valR wl (fun b => b < w.heap.size) (.slice Al ts.length cl) (ts.map (·.2)) ∧ Reads bs (list 4 w4 valF) s (ts.map (·.2)) s' ∧ Jr wl g A c bs s' ∧ Mod (fun b => b = g) w wl := fun hz => by
    obtain ⟨A', c', e', h5, h6, row, ho⟩ := own_slice own
    cases e'
    exact ⟨s2, ⟨Al, cl, ts, by rw [List.length_map], rfl, by rw [List.length_map]; exact h5, h6, by rw [List.length_map]; omega, row, fun a ha _ => ⟨(ho a ha).2.1, by have := (ho a ha).1; omega⟩, fun t ht => valOk.weak (hts t ht) fun b _ hb => .inl hb⟩, hinv.done hz, pl, kl⟩
  refine if_p (fun hlt => ?_) (fun hge => ?_)
  · replace hlt : 0 < q := hlt
    refine Exists.intro s2.2 (And.intro (cellB pl.blk rfl) ?_)
    refine if_ (fun hz => ?_) (fun hz => ?_)
    · replace hz : s2.2 = false := by simpa using hz
      obtain ⟨k, hk⟩ : ∃ k, q.toNat = k + 1 := ⟨q.toNat - 1, by omega⟩
      rw [hk] at hinv
      have hk' : (q - 1).toNat = k := by omega
      refine call_ (rget_ok g A c bs s2 false 1 w1' wl pl) ?_
      rintro e wa ⟨kk, sa, rfl, rda, _, pa, ma⟩
      refine ⟨_, rfl, ?_⟩
      refine And.intro rfl ?_
      refine storeNew (vs := [zi kk, zi 0]) (arr := #[zi 0, zi 0]) rfl (ones rfl) ?_
      intro wb hXb nb sb
      have maz := ma.size
      obtain ⟨X, hX⟩ : ∃ X, X = wa.heap.size := ⟨_, rfl⟩
      rw [← hX] at hXb sb ⊢
      refine call_ (rnumber_ok g A c bs sa wb (pa.new nb)) ?_
      rintro e wc ⟨q2, s5, rfl, rdc, pc, mc⟩
      refine ⟨_, rfl, ?_⟩
      have hXc := mc.blk hXb (by omega)
      refine And.intro ⟨_, cellB hXc rfl⟩ (And.intro (fzB hXc _) (force_ ?_))
      refine stK hXc (show (1 : Nat) < 2 by decide) ?_
      intro w5 hX5 mX sX
      have p5 := pc.modN mX (by omega) (fun hn a ha e => by have := p.low hn a ha; omega)
      have m5 : Mod (fun b => b = g) wl w5 := Mod.trans (both (Mod.new ma nb) mc) mX fun b hb e => by omega
      have rd5 := reads_val (t := ⟨kk, q2⟩) rda rdc
      refine loadN_row (vs := [zi kk, zi q2]) (rowB hX5) rfl ?_
      have hx0 : valR w5 (fun b => b < wl.heap.size) [zi kk, zi q2] ⟨kk, q2⟩ := rfl
      have m5z := m5.size
      have hnR : ∀ b, w.heap.size ≤ b → ¬ b = g := fun b hb e => by omega
      have own5 := own_mod m5 own (fun b hb => hnR b (hown b hb).1)
      have n6 := New.alloc w5 (.cells [zi kk, zi q2].toArray 61)
      refine append2_ ok rfl rfl rfl rfl (own_new n6 own5) rfl rfl (row_alloc w5 [zi kk, zi q2] _ _) rfl (valOk.one hx0) (by decide) rfl (by show (ts.length + 1) * 16 ≤ _; omega) (by omega) (Nat.le_trans (by omega) n6.size) ?_
      intro A7 c7 w7 own7 mod7 st7
      have k57 : Mod (fun b => some b = (Value.slice Al ts.length cl).ownBlock) w5 w7 := Mod.trans n6.mod mod7 fun _ _ e => e
      have hl : (ts ++ [([zi kk, zi q2], (⟨kk, q2⟩ : Val))]).length = ts.length + 1 := by simp
      have st : ∀ b, some b = (Value.slice A7 (ts.length + 1) c7).ownBlock → some b = (Value.slice Al ts.length cl).ownBlock ∨ w5.heap.size ≤ b := fun b e => by
        rcases st7 b e.symm with e | e
        · exact .inl e.symm
        · exact .inr (Nat.le_trans n6.size e)
      have hnew := mem_step (h := g) (g := g) valOk hts hx0 (m5.mono fun _ _ e => .inl e) k57 hg hg klz (fun b e => hown b e.symm) st
      have pow := p5.modN k57 (fun e => by have := hown _ e.symm; omega) (fun hn a ha e => by have := p.low hn a ha; have := hown _ e.symm; omega)
      refine ⟨(q - 1).toNat, (((A7, c7), ts ++ [([zi kk, zi q2], (⟨kk, q2⟩ : Val))]), q - 1, s5), (by dsimp only; omega), ⟨rfl, (show Value.slice A7 (ts.length + 1) c7 = .slice A7 (ts ++ [([zi kk, zi q2], (⟨kk, q2⟩ : Val))]).length c7 by rw [hl]), (show zi (IntKind.i64.wrap (q - 1)) = zi (q - 1) by rw [wrap_i64 (by omega) (by omega)]), trivial⟩, rfl, ?_, ?_, by dsimp only; omega, pow, ?_, ?_, ?_⟩
      · dsimp only
        rw [hk', List.map_append]
        exact hinv.step hz rd5
      · dsimp only
        rw [hl]
        omega
      · exact Mod.trans (both kl m5) k57 fun b hb e => by have := hown b e.symm; omega
      · dsimp only
        rw [hl, cellsOf_snoc]
        exact own7
      · dsimp only
        rw [hl]
        exact hnew
    · replace hz : s2.2 = true := by simpa using hz
      exact hK ((Al, cl), ts) _ _ ⟨rfl, trivial⟩ (fin fun h => by rw [hz] at h; cases h)
  · replace hge : ¬ 0 < q := hge
    exact hK ((Al, cl), ts) _ _ ⟨rfl, trivial⟩ (fin fun _ => by omega)
end Go.Proofs.Yteanhakkceancaa.Image
