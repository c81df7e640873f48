/- The package word, walked: bytes read and written, a number patched; the document's bytes of numbers. -/
import Derived.Test.YteanhakkceancaaWRef2
namespace Go.Proofs.Yteanhakkceancaa.Word
open Go Go.Proofs.Yteanhakkceancaa Go.Proofs.Yteanhakkceancaa.Eng Go.Proofs
set_option maxRecDepth 10000

theorem own_base {w : World} {base b' : Nat} {e : TypeId} {size n : Nat} {v : Value} {xs : List Value} (h : w.ownsRow base e size v n xs) (hb : b' ≤ base) : w.ownsRow b' e size v n xs := by
  refine ⟨h.1, ?_⟩
  rcases h.2 with h' | ⟨g, cap, cur, rfl, hbg, rest⟩
  · exact .inl h'
  · exact .inr ⟨g, cap, cur, rfl, Nat.le_trans hb hbg, rest⟩
theorem RBytes_ok (g : Nat) (A : Option Addr) (c : Nat) (bs : List UInt8) (i : Nat) (k : Int) (w : World) (h : Rd w g A c bs i) (hm : bs.length ≤ 140737488355328) :
    Calls Try.prog 70 #[.pointer (some ⟨g, 0, none⟩), .int .i64 k] w fun e w' => ∃ v, e = .returned (.tuple #[v, .int .i64 (getB bs i k).2.1]) ∧ w'.ownsRow w.heap.size 5 1 v (getB bs i k).1.length (bvs (getB bs i k).1) ∧ Rd w' g A c bs (getB bs i k).2.2 ∧ Mod (fun b => b = g) w w' := by
  refine enter ok Try.func70 rfl rfl rfl ?_
  have ha := h.at_
  have hb := h.cap
  have hc := h.top
  have nil : ∀ w' : World, w'.ownsRow w.heap.size 5 1 (.slice none 0 0) 0 (bvs []) := fun _ => ⟨rfl, .inl ⟨rfl, rfl⟩⟩
  refine call_ (look_ok g A c bs i k (decide (0 ≤ k)) w h) ?_
  rintro e w1 ⟨rfl, h1⟩
  refine ⟨_, rfl, ?_⟩
  have hw1 := h.new h1
  have e1 : ∀ q : Int, (if decide (0 ≤ k) = true then if (bs.length : Int) - i < k then 7 else 0 else 2 : Int) = q → q ≠ 0 → getB bs i k = ([], q, i) := by
    intro q hq hne
    unfold getB
    by_cases h0 : 0 ≤ k
    · rw [if_pos (decide_eq_true h0)] at hq
      rw [if_neg (by omega)]
      by_cases hl : (bs.length : Int) - i < k
      · rw [if_pos hl] at hq ⊢
        rw [hq]
      · rw [if_neg hl] at hq
        exact absurd hq.symm hne
    · rw [if_neg (by simpa using h0)] at hq
      rw [if_pos (by omega), hq]
  have e2 : (if decide (0 ≤ k) = true then if (bs.length : Int) - i < k then 7 else 0 else 2 : Int) = 0 → 0 ≤ k ∧ ¬ (bs.length : Int) - i < k := by
    intro hq
    by_cases h0 : 0 ≤ k
    · rw [if_pos (decide_eq_true h0)] at hq
      by_cases hl : (bs.length : Int) - i < k
      · rw [if_pos hl] at hq
        cases hq
      · exact ⟨h0, hl⟩
    · rw [if_neg (by simpa using h0)] at hq
      cases hq
  generalize (if decide (0 ≤ k) = true then if (bs.length : Int) - i < k then 7 else 0 else 2 : Int) = q at e1 e2
  refine if_n (fun hne => ?_) (fun he => ?_)
  · rw [e1 q rfl hne]
    exact ⟨_, rfl, nil _, hw1, h1.mod⟩
  obtain ⟨h0, hl⟩ := e2 he
  obtain ⟨n, rfl⟩ : ∃ n : Nat, k = n := ⟨k.toNat, by omega⟩
  have hin : i + n ≤ bs.length := by omega
  have hgb : getB bs i n = ((bs.drop i).take n, 0, i + n) := by unfold getB; rw [if_neg (by omega), if_neg hl, Int.toNat_natCast]
  rw [hgb]
  have hlc : ((bs.drop i).take n).length = n := by rw [List.length_take, List.length_drop]; omega
  have ein : IntKind.i64.wrap ((i : Int) + (n : Int)) = ((i + n : Nat) : Int) := by
    rw [wrap_i64 (by omega) (by omega)]
    omega
  have eout : IntKind.i64.wrap (((i + n : Nat) : Int) - (n : Int)) = (i : Int) := by
    rw [wrap_i64 (by omega) (by omega)]
    omega
  obtain ⟨hput, hmod⟩ := hw1.put (j := i + n) hin (v := .int .i64 (IntKind.i64.wrap ((i : Int) + (n : Int)))) (by rw [ein])
  refine Exists.intro (i : Int) (And.intro (by rw [ad]; exact hw1.c1) (And.intro ⟨_, by rw [ad]; exact hw1.c1⟩ (And.intro (by rw [ad]; exact hw1.fz 1) ?_)))
  replace hput : Rd (w1.setCell (((⟨g, 0, none⟩ : Addr).add 0).add 1) (.int .i64 (IntKind.i64.wrap ((i : Int) + (n : Int))))) g A c bs (i + n) := by rw [ad]; exact hput
  have mm : Mod (fun b => b = g) w (w1.setCell (((⟨g, 0, none⟩ : Addr).add 0).add 1) (.int .i64 (IntKind.i64.wrap ((i : Int) + (n : Int))))) := by rw [ad]; exact Mod.trans h1.mod hmod fun _ _ h => h
  have hs1 := mm.size
  refine draw_ ok (.q 0 (.q 1 (.q 2 (.q 3 (.q 4 (.q 5 (.q 6 (.q 7 (.q 8 (.q 9 (.q 10 (.q 11 (.q 12 (.q 13 (.q 14 (.q 15 (.q 16 (.q 17 (.e 18 (.q 19 (.q 20 .done))))))))))))))))))))) [20] (New (w1.setCell (((⟨g, 0, none⟩ : Addr).add 0).add 1) (.int .i64 (IntKind.i64.wrap ((i : Int) + (n : Int)))))) (by kernel_rfl) (by kernel_rfl) (by kernel_rfl) (by kernel_rfl) (by kernel_rfl) (New.drew _) ?_
  refine Exists.intro A (Exists.intro bs.length (Exists.intro c (And.intro (fun w'' hw => by rw [ad g 0]; exact hw.cell hput.c0) ?_)))
  refine Exists.intro ((i + n : Nat) : Int) (And.intro (fun w'' hw => by have := hw.cell hput.c1; rw [← ad] at this; exact this) ?_)
  refine Exists.intro ((i + n : Nat) : Int) (And.intro (fun w'' hw => by have := hw.cell hput.c1; rw [← ad] at this; exact this) ?_)
  refine And.intro (by rw [eout]; omega) (And.intro (by rw [eout]; omega) (And.intro (by omega) ?_))
  have hcut := row_cut (hput.row.new (New.drew (w1.setCell (((⟨g, 0, none⟩ : Addr).add 0).add 1) (.int .i64 (IntKind.i64.wrap ((i : Int) + (n : Int))))))) hb i n
  refine call_ (Clone_ok _ _ _ ((bs.drop i).take n) (w1.setCell (((⟨g, 0, none⟩ : Addr).add 0).add 1) (.int .i64 (IntKind.i64.wrap ((i : Int) + (n : Int))))).drew (by rw [eout, hlc]; omega) (by rw [eout, Int.toNat_natCast]; exact hcut) (by rw [eout]; omega)) ?_
  rintro e w3 ⟨v, rfl, hown, n3⟩
  obtain ⟨A3, c3, rfl, _⟩ := own_slice hown
  refine ⟨_, rfl, ?_⟩
  have nw : New (w1.setCell (((⟨g, 0, none⟩ : Addr).add 0).add 1) (.int .i64 (IntKind.i64.wrap ((i : Int) + (n : Int))))) w3 := (New.drew (w1.setCell (((⟨g, 0, none⟩ : Addr).add 0).add 1) (.int .i64 (IntKind.i64.wrap ((i : Int) + (n : Int)))))).trans n3
  refine Exists.intro (New (w1.setCell (((⟨g, 0, none⟩ : Addr).add 0).add 1) (.int .i64 (IntKind.i64.wrap ((i : Int) + (n : Int)))))) (And.intro (fun _ h => h) (And.intro nw ?_))
  have el : ((i + n : Nat) : Int).toNat - (IntKind.i64.wrap (((i + n : Nat) : Int) - (n : Int))).toNat = ((bs.drop i).take n).length := by rw [eout, hlc]; omega
  rw [el] at hown
  have e2 : (Value.slice A3 (((i + n : Nat) : Int).toNat - (IntKind.i64.wrap (((i + n : Nat) : Int) - (n : Int))).toNat) c3) = .slice A3 ((bs.drop i).take n).length c3 := by rw [el]
  refine ⟨_, rfl, ?_, hput.new nw, Mod.trans mm nw (fun _ _ h => h.elim)⟩
  have hown' : w3.ownsRow w.heap.size 5 1 (.slice A3 ((bs.drop i).take n).length c3) ((bs.drop i).take n).length (bvs ((bs.drop i).take n)) := own_base hown (by simpa using hs1)
  exact e2 ▸ hown'

/-- Bytes written. -/
theorem WBytes_ok (base g : Nat) (v : Value) (bs : List UInt8) (C : Option Addr) (q qc : Nat) (ys : List UInt8) (w : World) (h : Wr w base g v bs) (hy : Row w C (bvs ys)) (hq : q = ys.length) (hm : bs.length + ys.length ≤ 140737488355328) (hbase : base ≤ w.heap.size) :
    Calls Try.prog 61 #[.pointer (some ⟨g, 0, none⟩), .slice C q qc] w fun e w' => e = .returned (.int .i64 0) ∧ ∃ v', Wr w' base g v' (bs ++ ys) ∧ Mod (WS g v) w w' ∧ stayed w v v' := by
  refine enter ok Try.func61 rfl rfl rfl ?_
  refine call_ (wis_ok _ true w h.is) ?_
  rintro e w' ⟨rfl, rfl⟩
  refine ⟨_, rfl, ?_⟩
  obtain ⟨A0, c0, rfl, _⟩ := own_slice h.own
  refine Exists.intro A0 (Exists.intro bs.length (Exists.intro c0 (And.intro (by rw [ad]; exact h.c0) ?_)))
  refine append2_ ok rfl rfl rfl rfl h.own rfl rfl hy (by rw [bvs_length, hq]; exact (Nat.mul_one _).symm) (bvs_one _) (by decide) rfl (by show (bs.length + q) * 1 ≤ _; omega) (by omega) hbase ?_
  intro A1 c1 w3 own3 mod3 st3
  have hgl := h.lt
  have hblk3 := mod3.blk h.blk (fun e => h.off e.symm)
  have hc3 : w3.cell? ⟨g, 0, none⟩ = some (.slice A0 bs.length c0) := by rw [cell_of_row _ _ 0 _ _ _ hblk3]; rfl
  have hl3 : bs.length + q = (bs ++ ys).length := by simp [hq]
  have hoff3 : (Value.slice A1 (bs.length + q) c1).ownBlock ≠ some g := by
    intro e
    rcases st3 g e with h1 | h1
    · exact h.off h1
    · omega
  rw [← bvs_append, hl3] at own3
  obtain ⟨wr4, mod4⟩ := Wr.set (bs := bs ++ ys) hblk3 own3 (by rw [← hl3]; exact hoff3)
  refine And.intro ⟨_, by rw [ad]; exact hc3⟩ (And.intro (by rw [ad]; exact frozen_of_row w3 g 0 _ _ hblk3) ?_)
  rw [← hl3] at wr4 mod4
  rw [ad]
  refine ⟨rfl, _, wr4, ?_, st3⟩
  exact Mod.trans (mod3.mono fun b _ e => .inr e) mod4 fun b _ e => .inl e
end Go.Proofs.Yteanhakkceancaa.Word
