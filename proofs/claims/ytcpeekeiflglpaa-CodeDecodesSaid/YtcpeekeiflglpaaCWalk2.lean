/- The package code, walked: numbers read, unless there are none. -/
import Derived.Test.YtcpeekeiflglpaaCWalk1
import Derived.Test.YtcpeekeiflglpaaCRead
import Derived.Laws.Bits64
namespace Go.Proofs.Ytcpeekeiflglpaa.Code
open Go Go.Proofs.Ytcpeekeiflglpaa Go.Proofs.Ytcpeekeiflglpaa.Eng Go.Proofs Go.Proofs.Ytcpeekeiflglpaa.Word
open Go.Proofs.Ytcpeekeiflglpaa.Pool (numR rd_modN rd_low RS both)
set_option maxRecDepth 10000

/-- A reader of instructions in memory. -/
structure Cr (w : World) (h g : Nat) (A : Option Addr) (c : Nat) (bs : List UInt8) (s : Nat × Int) : Prop where
  blk : w.heap[h]? = some (.cells #[.pointer (some ⟨g, 0, none⟩), .bool (!decide (s.2 = 0))] 114 (0, 0))
  rd : Rd w g A c bs s.1
  ne : h ≠ g
  off : ∀ a, A = some a → bs ≠ [] → a.block ≠ h
theorem Cr.modN {S : Nat → Prop} {w w' : World} {h g : Nat} {A : Option Addr} {c : Nat} {bs : List UInt8} {s : Nat × Int} (p : Cr w h g A c bs s) (k : Mod S w w') (hh : ¬ S h) (hg : ¬ S g) (ha : ∀ a, A = some a → bs ≠ [] → ¬ S a.block) : Cr w' h g A c bs s :=
  ⟨k.blk p.blk hh, rd_modN p.rd k hg ha, p.ne, p.off⟩
theorem Cr.new {w w' : World} {h g : Nat} {A : Option Addr} {c : Nat} {bs : List UInt8} {s : Nat × Int} (p : Cr w h g A c bs s) (k : New w w') : Cr w' h g A c bs s := p.modN k (fun e => e) (fun e => e) (fun _ _ _ e => e)
theorem Cr.lt {w : World} {h g : Nat} {A : Option Addr} {c : Nat} {bs : List UInt8} {s : Nat × Int} (p : Cr w h g A c bs s) : h < w.heap.size ∧ g < w.heap.size := ⟨(Array.getElem?_eq_some_iff.1 p.blk).1, p.rd.lt⟩
theorem Cr.low {w : World} {h g : Nat} {A : Option Addr} {c : Nat} {bs : List UInt8} {s : Nat × Int} (p : Cr w h g A c bs s) : ∀ a, A = some a → bs ≠ [] → a.block < w.heap.size := rd_low p.rd
/-- The mark set. -/
theorem Cr.set {w w' : World} {h g : Nat} {A : Option Addr} {c : Nat} {bs : List UInt8} {s : Nat × Int} (p : Cr w h g A c bs s) (m : Mod (fun b => b = h) w w') (k : Int) {b : Bool} (hb : w'.heap[h]? = some (.cells #[.pointer (some ⟨g, 0, none⟩), .bool b] 114 (0, 0))) (hk : b = !decide (k = 0)) : Cr w' h g A c bs (s.1, k) :=
  ⟨by rw [hb, hk], rd_modN p.rd m (fun e => p.ne e.symm) (fun a ha hn e => p.off a ha hn e), p.ne, p.off⟩
def wayF (sign : Bool) : FuncId := bif sign then 65 else 64
abbrev wayV (sign : Bool) (g : Nat) : Value := .func (.func (wayF sign)) #[.pointer (some ⟨g, 0, none⟩)] #[]
theorem get_ok (h g : Nat) (A : Option Addr) (c : Nat) (bs : List UInt8) (s : Nat × Int) (sign : Bool) (k : Nat) (w : World) (p : Cr w h g A c bs s) :
    Calls Try.prog 86 #[.pointer (some ⟨h, 0, none⟩), wayV sign g, .int .i64 (k : Int)] w fun e w' => e = .returned (.int .i64 (numR bs sign k s).1) ∧ Cr w' h g A c bs (numR bs sign k s).2 ∧ Mod (RS h g) w w' := by
  cases sign with
  | true =>
    refine enter ok Try.func86 rfl rfl rfl ?_
    refine Exists.intro (!decide (s.2 = 0)) (And.intro (cellB p.blk rfl) ?_)
    unfold numR
    refine if_n (fun hne => ?_) (fun h0 => ?_)
    · rw [if_neg (show ¬ s.2 = 0 from hne)]
      exact ⟨rfl, p, (New.refl w).mod⟩
    rw [if_pos (show s.2 = 0 from h0)]
    refine call_ (S_ok g A c bs s.1 k w p.rd) ?_
    rintro e w4 ⟨rfl, rd4, m4⟩
    refine ⟨_, rfl, ?_⟩
    have hb4 := m4.blk p.blk p.ne
    refine And.intro ⟨_, cellB hb4 rfl⟩ (And.intro (fzB hb4 _) (force_ ?_))
    refine stK hb4 (show (1 : Nat) < 2 by decide) ?_
    intro w5 hb5 m5 s5
    exact ⟨rfl, ⟨hb5, rd_modN rd4 m5 (fun e => p.ne e.symm) (fun a ha hb e => p.off a ha hb e), p.ne, p.off⟩, both (m4.mono fun _ _ e => .inl e) (m5.mono fun _ _ e => .inr e)⟩
  | false =>
    refine enter ok Try.func86 rfl rfl rfl ?_
    refine Exists.intro (!decide (s.2 = 0)) (And.intro (cellB p.blk rfl) ?_)
    unfold numR
    refine if_n (fun hne => ?_) (fun h0 => ?_)
    · rw [if_neg (show ¬ s.2 = 0 from hne)]
      exact ⟨rfl, p, (New.refl w).mod⟩
    rw [if_pos (show s.2 = 0 from h0)]
    refine call_ (U_ok g A c bs s.1 k w p.rd) ?_
    rintro e w4 ⟨rfl, rd4, m4⟩
    refine ⟨_, rfl, ?_⟩
    have hb4 := m4.blk p.blk p.ne
    refine And.intro ⟨_, cellB hb4 rfl⟩ (And.intro (fzB hb4 _) (force_ ?_))
    refine stK hb4 (show (1 : Nat) < 2 by decide) ?_
    intro w5 hb5 m5 s5
    exact ⟨rfl, ⟨hb5, rd_modN rd4 m5 (fun e => p.ne e.symm) (fun a ha hb e => p.off a ha hb e), p.ne, p.off⟩, both (m4.mono fun _ _ e => .inl e) (m5.mono fun _ _ e => .inr e)⟩

/-! ### How many noughts -/
theorem and3 (p : Nat) (hp : p < 9223372036854775808) : bits .and .i64 (p : Int) 3 = ((p % 4 : Nat) : Int) := by
  have h1 : (BitVec.ofInt 64 (p : Int)).toNat = p := by
    rw [BitVec.ofInt_natCast, BitVec.toNat_ofNat]; exact Nat.mod_eq_of_lt (by omega)
  have h2 : (BitVec.ofInt 64 (3 : Int)).toNat = 3 := by decide
  show IntKind.i64.wrap ((BitVec.ofInt 64 (p : Int) &&& BitVec.ofInt 64 (3 : Int)).toNat : Int) = _
  rw [BitVec.toNat_and, h1, h2, show p &&& 3 = p % 4 from Nat.and_two_pow_sub_one_eq_mod p 2]
  rw [wrap_i64 (by omega) (by omega)]
theorem pad_ok (p : Nat) (w : World) (hp : p < 9223372036854775808) : Calls Try.prog 94 #[.int .i64 (p : Int)] w fun e w' => e = .returned (.int .i64 (padOf p : Int)) ∧ w' = w := by
  refine enter ok Try.func94 rfl rfl rfl ?_
  refine ⟨?_, rfl⟩
  show Ending.returned (.int .i64 (IntKind.i64.wrap (3 - bits .and .i64 (p : Int) 3))) = _
  rw [and3 p hp, wrap_i64 (by omega) (by omega)]
  unfold padOf
  congr 2
  omega

/-! ### How operands are read -/
def opsOf (f : Nat) : List (Bool × Nat) := match f with
  | 2 => [(true, 1)]
  | 3 => [(true, 2)]
  | 4 => [(false, 1)]
  | 5 => [(false, 2)]
  | 6 => [(false, 1), (true, 1)]
  | 7 => [(true, 2)]
  | _ => []
def opV (g : Nat) (o : Bool × Nat) : List Value := [wayV o.1 g, .int .i64 (o.2 : Int)]
theorem ways_ok (h g : Nat) (A : Option Addr) (c : Nat) (bs : List UInt8) (s : Nat × Int) (f : Nat) (w : World) (p : Cr w h g A c bs s) :
    Calls Try.prog 88 #[.pointer (some ⟨h, 0, none⟩), .int .i64 (f : Int)] w fun e w' => ∃ C q, e = .returned (.slice C (opsOf f).length q) ∧ Row w' C ((opsOf f).map (opV g)).flatten ∧ New w w' ∧ ∀ a, C = some a → w.heap.size ≤ a.block := by
  refine enter ok Try.func88 rfl rfl rfl ?_
  refine if_p (fun h2 => ?_) (fun h2 => ?_)
  · replace h2 : (f : Int) = 2 := h2
    obtain rfl : f = 2 := by omega
    refine Exists.intro (some ⟨g, 0, none⟩) (And.intro (cellB p.blk rfl) ?_)
    exact ⟨_, _, rfl, row_alloc w (opV g (true, 1)) _ _, New.alloc w _, fun a ha => by cases ha; exact Nat.le_refl _⟩
  replace h2 : ¬ (f : Int) = 2 := h2
  refine seq_cut (σ := Unit) (fun _ => [(0, .pointer (some ⟨h, 0, none⟩)), (5, .int .i64 (f : Int)), (15, .bool (decide (f = 3 ∨ f = 7)))]) (fun _ w' => w' = w) ?_ ?_
  rotate_left
  · intro K hK
    refine if_p (fun h3 => ?_) (fun h3 => ?_)
    · replace h3 : (f : Int) = 3 := h3
      exact hK () _ _ ⟨rfl, rfl, (show Value.bool (decide ((f : Int) = 3)) = _ by rw [decide_eq_true h3, decide_eq_true (show f = 3 ∨ f = 7 by omega)]), trivial⟩ rfl
    · replace h3 : ¬ (f : Int) = 3 := h3
      refine hK () _ _ ⟨rfl, rfl, (show Value.bool (decide ((f : Int) = 7)) = .bool (decide (f = 3 ∨ f = 7)) from ?_), trivial⟩ rfl
      congr 1
      exact decide_eq_decide.2 (by omega)
  rintro _ w' fr rfl
  refine if_p (fun h3 => ?_) (fun h3 => ?_)
  · replace h3 : f = 3 ∨ f = 7 := h3
    refine Exists.intro (some ⟨g, 0, none⟩) (And.intro (cellB p.blk rfl) ?_)
    rcases h3 with rfl | rfl
    · exact ⟨_, _, rfl, row_alloc w' (opV g (true, 2)) _ _, New.alloc w' _, fun a ha => by cases ha; exact Nat.le_refl _⟩
    · exact ⟨_, _, rfl, row_alloc w' (opV g (true, 2)) _ _, New.alloc w' _, fun a ha => by cases ha; exact Nat.le_refl _⟩
  replace h3 : ¬ (f = 3 ∨ f = 7) := h3
  refine if_p (fun h4 => ?_) (fun h4 => ?_)
  · replace h4 : (f : Int) = 4 := h4
    obtain rfl : f = 4 := by omega
    refine Exists.intro (some ⟨g, 0, none⟩) (And.intro (cellB p.blk rfl) ?_)
    exact ⟨_, _, rfl, row_alloc w' (opV g (false, 1)) _ _, New.alloc w' _, fun a ha => by cases ha; exact Nat.le_refl _⟩
  replace h4 : ¬ (f : Int) = 4 := h4
  refine if_p (fun h5 => ?_) (fun h5 => ?_)
  · replace h5 : (f : Int) = 5 := h5
    obtain rfl : f = 5 := by omega
    refine Exists.intro (some ⟨g, 0, none⟩) (And.intro (cellB p.blk rfl) ?_)
    exact ⟨_, _, rfl, row_alloc w' (opV g (false, 2)) _ _, New.alloc w' _, fun a ha => by cases ha; exact Nat.le_refl _⟩
  replace h5 : ¬ (f : Int) = 5 := h5
  refine if_p (fun h6 => ?_) (fun h6 => ?_)
  · replace h6 : (f : Int) = 6 := h6
    obtain rfl : f = 6 := by omega
    refine draw_ (w := w') ok (.q 0 (.q 1 (.q 2 (.q 3 (.q 4 (.q 5 (.q 6 (.q 7 (.q 8 (.q 9 (.q 10 (.q 11 (.e 12 (.q 13 .done)))))))))))))) [13] (New w') (by kernel_rfl) (by kernel_rfl) (by kernel_rfl) (by kernel_rfl) (by kernel_rfl) (New.drew _) ?_
    refine Exists.intro (some ⟨g, 0, none⟩) (And.intro (fun w'' hw => cellB (hw.blk p.blk) rfl) ?_)
    refine Exists.intro (some ⟨g, 0, none⟩) (And.intro (fun w'' hw => cellB (hw.blk p.blk) rfl) ?_)
    have n1 := (New.drew w').trans (New.alloc w'.drew (.cells (opV g (false, 1) ++ opV g (true, 1)).toArray 143))
    refine Exists.intro (New w') (And.intro (fun _ h => h) (And.intro n1 ?_))
    exact ⟨_, _, rfl, row_alloc w'.drew (opV g (false, 1) ++ opV g (true, 1)) _ _, n1, fun a ha => by cases ha; exact (New.drew w').size⟩
  replace h6 : ¬ (f : Int) = 6 := h6
  have e : opsOf f = [] := by
    unfold opsOf
    split <;> first
      | omega
      | rfl
  rw [e]
  exact ⟨_, _, rfl, Row.nil _ _, New.refl _, fun a ha => by cases ha⟩
end Go.Proofs.Ytcpeekeiflglpaa.Code
