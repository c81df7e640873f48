/- The package image, walked: a machine read. Printed by genparse.py. -/
import Derived.Test.YteanhakkceancaaIWalk2
namespace Go.Proofs.Yteanhakkceancaa.Image
open Go Go.Proofs.Yteanhakkceancaa Go.Proofs.Yteanhakkceancaa.Eng Go.Proofs Go.Proofs.Yteanhakkceancaa.Word Go.Proofs.Yteanhakkceancaa.Fmt
open Go.Proofs.Yteanhakkceancaa.Pool (rd_modN rd_low RS both own_low)
set_option maxRecDepth 10000

def pagesOf (n : Nat) : Nat := (n + 255) / 256
theorem pages_val (n : Nat) (hn : n ≤ 9223372036854775807) (h : ¬ (n : Int) < 1) : IntKind.i64.wrap (IntKind.i64.wrap ((IntKind.i64.wrap ((n : Int) - 1)).tdiv 256) + 1) = (pagesOf n : Int) := by
  rw [wrap_i64 (n := (n : Int) - 1) (by omega) (by omega)]
  have e : ((n : Int) - 1).tdiv 256 = ((n - 1) / 256 : Nat) := by
    rw [show (n : Int) - 1 = ((n - 1 : Nat) : Int) by omega]
    rfl
  rw [e, wrap_i64 (n := (((n - 1) / 256 : Nat) : Int)) (by omega) (by omega), wrap_i64 (by omega) (by omega)]
  unfold pagesOf
  omega
theorem Pages_ok (n : Nat) (w : World) (hn : n ≤ 9223372036854775807) : Calls Try.prog 29 #[.int .i64 (n : Int)] w fun e w' => e = .returned (.int .i64 (pagesOf n : Int)) ∧ w' = w := by
  refine enter ok Try.func29 rfl rfl rfl ?_
  refine if_p (fun h => ?_) (fun h => ?_)
  · replace h : (n : Int) < 1 := h
    have : n = 0 := by omega
    subst this
    exact ⟨rfl, rfl⟩
  · refine And.intro (by decide) ⟨?_, rfl⟩
    show Ending.returned (.int .i64 (IntKind.i64.wrap (IntKind.i64.wrap ((IntKind.i64.wrap ((n : Int) - 1)).tdiv 256) + 1))) = _
    rw [pages_val n hn h]
theorem rPages_ok (n : Nat) (w : World) (hn : n ≤ 9223372036854775807) : Calls Try.prog 36 #[.int .i64 (n : Int)] w fun e w' => e = .returned (.int .i64 (pagesOf n : Int)) ∧ w' = w := by
  refine enter ok Try.func36 rfl rfl rfl ?_
  refine if_p (fun h => ?_) (fun h => ?_)
  · replace h : (n : Int) < 1 := h
    have : n = 0 := by omega
    subst this
    exact ⟨rfl, rfl⟩
  · refine And.intro (by decide) ⟨?_, rfl⟩
    show Ending.returned (.int .i64 (IntKind.i64.wrap (IntKind.i64.wrap ((IntKind.i64.wrap ((n : Int) - 1)).tdiv 256) + 1))) = _
    rw [pages_val n hn h]
theorem pages_most (n : Nat) : 4096 < pagesOf n ↔ most < n := by
  unfold pagesOf most
  omega
def perr (bs : List UInt8) : Int := match parseM bs with
  | some _ => 0
  | none => 210
/-- What a reading of a machine leaves. -/
def PRes (w : World) (bs : List UInt8) (e : Ending) (w' : World) : Prop := ∃ cs, e = .returned (.tuple #[.agg cs.toArray, .int .i64 (perr bs)]) ∧ machR w' (fun b => b < w.heap.size) cs ((parseM bs).getD void) ∧ New w w'
theorem void_rep (w : World) (S : Nat → Prop) : machR w S [zi 0, (.slice none 0 0), (.slice none 0 0), (.slice none 0 0), (.slice none 0 0), zi 0, (.slice none 0 0), (.slice none 0 0), zi 0, zi 0] void := ⟨_, _, _, _, _, _, rfl, LRep.nil _ _ _ trivial, LRep.nil _ _ _ trivial, LRep.nil _ _ _ trivial, LRep.nil _ _ _ trivial, LRep.nil _ _ _ trivial, LRep.nil _ _ _ trivial⟩
theorem pres_none {w w' : World} {bs : List UInt8} (h : parseM bs = none) (n : New w w') : PRes w bs (.returned (.tuple #[.agg #[zi 0, (.slice none 0 0), (.slice none 0 0), (.slice none 0 0), (.slice none 0 0), zi 0, (.slice none 0 0), (.slice none 0 0), zi 0, zi 0], .int .i64 210])) w' :=
  ⟨[zi 0, (.slice none 0 0), (.slice none 0 0), (.slice none 0 0), (.slice none 0 0), zi 0, (.slice none 0 0), (.slice none 0 0), zi 0, zi 0], by unfold perr; rw [h], by rw [h]; exact void_rep _ _, n⟩
theorem Parse_ok (A : Option Addr) (n c : Nat) (bs : List UInt8) (w : World) (hn : n = bs.length) (hr : Row w A (bvs bs)) (hc : bs.length ≤ c) (ht : c ≤ 9223372036854775807) (hm : bs.length ≤ 1000000000) :
    Calls Try.prog 13 #[.slice A n c] w (PRes w bs) := by
  subst hn
  refine enter ok Try.func13 rfl rfl rfl ?_
  have hlow : ∀ a, A = some a → bs ≠ [] → a.block < w.heap.size := Word.row_low hr
  refine seq_cut (σ := Unit) (fun _ => [(0, .slice A bs.length c), (2, .pointer (some ⟨w.heap.size, 0, none⟩))]) (fun _ w' => New w w' ∧ w'.heap.size = w.heap.size + 1 ∧ w'.heap[w.heap.size]? = some (.cells #[zi 0, (.slice none 0 0), (.slice none 0 0), (.slice none 0 0), (.slice none 0 0), zi 0, (.slice none 0 0), (.slice none 0 0), zi 0, zi 0] 28 (0, 0))) ?_ ?_
  rotate_left
  · intro K hK
    exact hK () _ _ ⟨rfl, rfl, trivial⟩ ⟨New.alloc w _, by simp, heap_alloc_new w (.cells #[zi 0, (.slice none 0 0), (.slice none 0 0), (.slice none 0 0), (.slice none 0 0), zi 0, (.slice none 0 0), (.slice none 0 0), zi 0, zi 0] 28)⟩
  rintro _ w1 fr1 ⟨n1, z1, hZ1⟩
  refine seq_cut (σ := Unit) (fun _ => [(0, .slice A bs.length c), (2, .pointer (some ⟨w.heap.size, 0, none⟩)), (4, .pointer (some ⟨w.heap.size + 2, 0, none⟩))]) (fun _ w' => Ir w' (w.heap.size + 2) (w.heap.size + 1) A c bs (0, false) ∧ New w w' ∧ w'.heap.size = w.heap.size + 3 ∧ w'.heap[w.heap.size]? = some (.cells #[zi 0, (.slice none 0 0), (.slice none 0 0), (.slice none 0 0), (.slice none 0 0), zi 0, (.slice none 0 0), (.slice none 0 0), zi 0, zi 0] 28 (0, 0))) ?_ ?_
  rotate_left
  · intro K hK
    refine call_ (Read_okN A c bs w1 (hr.new n1) hc ht) ?_
    rintro e w2 ⟨rfl, rd2, n2, s2⟩
    refine ⟨_, rfl, ?_⟩
    rw [z1] at rd2 s2
    have n3 := New.alloc w2 (.cells #[.pointer (some ⟨w.heap.size + 1, 0, none⟩), .bool false] 84)
    have hb3 := heap_alloc_new w2 (.cells #[.pointer (some ⟨w.heap.size + 1, 0, none⟩), .bool false] 84)
    rw [s2] at hb3
    have z3 : (w2.alloc (.cells #[.pointer (some ⟨w.heap.size + 1, 0, none⟩), .bool false] 84)).heap.size = w.heap.size + 3 := by simp [s2]
    have e1 : (Value.pointer (some ⟨w1.heap.size, 0, none⟩)) = .pointer (some ⟨w.heap.size + 1, 0, none⟩) := by rw [z1]
    rw [e1]
    exact hK () _ _ ⟨rfl, rfl, (show Value.pointer (some ⟨w2.heap.size, 0, none⟩) = _ by rw [s2]), trivial⟩ ⟨⟨hb3, rd2.new n3, by omega, fun a ha hb => by have := hlow a ha hb; omega⟩, (n1.trans n2).trans n3, z3, (n2.trans n3).blk hZ1⟩
  rintro _ w2 fr2 ⟨p2, n2, z2, hZ2⟩
  obtain ⟨h, hh⟩ : ∃ h, h = w.heap.size + 2 := ⟨_, rfl⟩
  obtain ⟨g, hg⟩ : ∃ g, g = w.heap.size + 1 := ⟨_, rfl⟩
  rw [← hh, ← hg] at p2
  rw [← hh]
  have nR : ∀ b, w.heap.size + 3 ≤ b → ¬ RS h g b := fun b hb e => by rcases e with e | e <;> omega
  have nR0 : ¬ RS h g w.heap.size := fun e => by rcases e with e | e <;> omega
  have nw : ∀ {wa wb : World}, New w wa → Mod (RS h g) wa wb → New w wb := fun n m => Mod.trans n m fun b hb e => by rcases e with e | e <;> omega
  have nl : ∀ {wa wb : World} {x : Nat}, New w wa → Mod (fun b => b = x) wa wb → w.heap.size ≤ x → New w wb := fun n m hx => Mod.trans n m fun b hb e => by omega
  have loc : ∀ {wa wb : World} {s : RSt} {x : Nat}, Ir wa h g A c bs s → Mod (fun b => b = x) wa wb → (x = w.heap.size ∨ w.heap.size + 3 ≤ x) → Ir wb h g A c bs s := fun p m hx => p.modN m (by omega) (by omega) (fun a ha hn e => by have := hlow a ha hn; omega)
  refine seq_cut (σ := Unit) (fun _ => [(0, .slice A bs.length c), (2, .pointer (some ⟨w.heap.size, 0, none⟩)), (4, .pointer (some ⟨h, 0, none⟩)), (5, .pointer (some ⟨w.heap.size + 3, 0, none⟩))]) (fun _ w' => Ir w' h g A c bs (0, false) ∧ New w w' ∧ w'.heap.size = w.heap.size + 4 ∧ w'.heap[w.heap.size]? = some (.cells #[zi 0, (.slice none 0 0), (.slice none 0 0), (.slice none 0 0), (.slice none 0 0), zi 0, (.slice none 0 0), (.slice none 0 0), zi 0, zi 0] 28 (0, 0)) ∧ w'.heap[w.heap.size + 3]? = some (.cells #[zi 0, (.slice none 0 0), (.slice none 0 0), (.slice none 0 0), (.slice none 0 0), zi 0, (.slice none 0 0), (.slice none 0 0), zi 0, zi 0] 28 (0, 0))) ?_ ?_
  rotate_left
  · intro K hK
    have n3 := New.alloc w2 (.cells #[zi 0, (.slice none 0 0), (.slice none 0 0), (.slice none 0 0), (.slice none 0 0), zi 0, (.slice none 0 0), (.slice none 0 0), zi 0, zi 0] 28)
    have hb3 := heap_alloc_new w2 (.cells #[zi 0, (.slice none 0 0), (.slice none 0 0), (.slice none 0 0), (.slice none 0 0), zi 0, (.slice none 0 0), (.slice none 0 0), zi 0, zi 0] 28)
    rw [z2] at hb3
    exact hK () _ _ ⟨rfl, rfl, rfl, (show Value.pointer (some ⟨w2.heap.size, 0, none⟩) = _ by rw [z2]), trivial⟩ ⟨p2.new n3, n2.trans n3, by simp [z2], n3.blk hZ2, hb3⟩
  rintro _ w3 fr3 ⟨p3, n3, z3, hZ3, hX3⟩
  -- the numbers
  refine seq_cut (σ := Unit) (fun _ => [(0, .slice A bs.length c), (2, .pointer (some ⟨w.heap.size, 0, none⟩)), (4, .pointer (some ⟨h, 0, none⟩)), (5, .pointer (some ⟨w.heap.size + 3, 0, none⟩))]) (fun _ w' => ∃ a0 a1 a2 a3 s1 s2 s3 s4, Reads bs n8 (0, false) a0 s1 ∧ Reads bs n8 s1 a1 s2 ∧ Reads bs n8 s2 a2 s3 ∧ Reads bs n8 s3 a3 s4 ∧ Ir w' h g A c bs s4 ∧ New w w' ∧ w.heap.size + 4 ≤ w'.heap.size ∧ w'.heap[w.heap.size]? = some (.cells #[zi 0, (.slice none 0 0), (.slice none 0 0), (.slice none 0 0), (.slice none 0 0), zi 0, (.slice none 0 0), (.slice none 0 0), zi 0, zi 0] 28 (0, 0)) ∧ w'.heap[w.heap.size + 3]? = some (.cells #[zi a0, (.slice none 0 0), (.slice none 0 0), (.slice none 0 0), (.slice none 0 0), zi a1, (.slice none 0 0), (.slice none 0 0), zi a2, zi a3] 28 (0, 0))) ?_ ?_
  rotate_left
  · intro K hK
    refine seq_cut (σ := Unit) (fun _ => [(0, .slice A bs.length c), (2, .pointer (some ⟨w.heap.size, 0, none⟩)), (4, .pointer (some ⟨h, 0, none⟩)), (5, .pointer (some ⟨w.heap.size + 3, 0, none⟩)), (16, .slice (some ⟨w.heap.size + 4, 0, none⟩) 4 4), (17, .int .i64 ((4 : Nat) : Int)), (18, .int .i64 0)]) (fun _ w' => Ir w' h g A c bs (0, false) ∧ New w w' ∧ w.heap.size + 4 ≤ w'.heap.size ∧ w'.heap[w.heap.size]? = some (.cells #[zi 0, (.slice none 0 0), (.slice none 0 0), (.slice none 0 0), (.slice none 0 0), zi 0, (.slice none 0 0), (.slice none 0 0), zi 0, zi 0] 28 (0, 0)) ∧ w'.heap[w.heap.size + 3]? = some (.cells #[zi 0, (.slice none 0 0), (.slice none 0 0), (.slice none 0 0), (.slice none 0 0), zi 0, (.slice none 0 0), (.slice none 0 0), zi 0, zi 0] 28 (0, 0)) ∧ w'.heap[w.heap.size + 4]? = some (.cells #[.pointer (some ((⟨w.heap.size + 3, 0, none⟩ : Addr).add 0)), .pointer (some ((⟨w.heap.size + 3, 0, none⟩ : Addr).add 5)), .pointer (some ((⟨w.heap.size + 3, 0, none⟩ : Addr).add 8)), .pointer (some ((⟨w.heap.size + 3, 0, none⟩ : Addr).add 9))] 85 (0, 0))) ?_ ?_
    rotate_left
    · intro K2 hK2
      have n4 := New.alloc w3 (.cells #[.pointer (some ((⟨w.heap.size + 3, 0, none⟩ : Addr).add 0)), .pointer (some ((⟨w.heap.size + 3, 0, none⟩ : Addr).add 5)), .pointer (some ((⟨w.heap.size + 3, 0, none⟩ : Addr).add 8)), .pointer (some ((⟨w.heap.size + 3, 0, none⟩ : Addr).add 9))] 85)
      have hb4 := heap_alloc_new w3 (.cells #[.pointer (some ((⟨w.heap.size + 3, 0, none⟩ : Addr).add 0)), .pointer (some ((⟨w.heap.size + 3, 0, none⟩ : Addr).add 5)), .pointer (some ((⟨w.heap.size + 3, 0, none⟩ : Addr).add 8)), .pointer (some ((⟨w.heap.size + 3, 0, none⟩ : Addr).add 9))] 85)
      rw [z3] at hb4
      have z4 : w.heap.size + 4 ≤ (w3.alloc (.cells #[.pointer (some ((⟨w.heap.size + 3, 0, none⟩ : Addr).add 0)), .pointer (some ((⟨w.heap.size + 3, 0, none⟩ : Addr).add 5)), .pointer (some ((⟨w.heap.size + 3, 0, none⟩ : Addr).add 8)), .pointer (some ((⟨w.heap.size + 3, 0, none⟩ : Addr).add 9))] 85)).heap.size := by simp [z3]
      exact hK2 () _ _ ⟨rfl, rfl, rfl, rfl, (show Value.slice (some ⟨w3.heap.size, 0, none⟩) 4 4 = _ by rw [z3]), rfl, rfl, trivial⟩ ⟨p3.new n4, n3.trans n4, z4, n4.blk hZ3, n4.blk hX3, hb4⟩
    rintro _ w4 fr4 ⟨p4, n4, z4, hZ4, hX4, hP4⟩
    refine den_loop (σ := List Int × RSt) (fun t => [(0, .slice A bs.length c), (2, .pointer (some ⟨w.heap.size, 0, none⟩)), (4, .pointer (some ⟨h, 0, none⟩)), (5, .pointer (some ⟨w.heap.size + 3, 0, none⟩)), (16, .slice (some ⟨w.heap.size + 4, 0, none⟩) 4 4), (17, .int .i64 ((4 : Nat) : Int)), (18, .int .i64 (t.1.length : Int))])
      (fun m t wl => m + t.1.length = 4 ∧ Nums bs (0, false) t.1 t.2 ∧ Ir wl h g A c bs t.2 ∧ New w wl ∧ w.heap.size + 4 ≤ wl.heap.size ∧ wl.heap[w.heap.size]? = some (.cells #[zi 0, (.slice none 0 0), (.slice none 0 0), (.slice none 0 0), (.slice none 0 0), zi 0, (.slice none 0 0), (.slice none 0 0), zi 0, zi 0] 28 (0, 0)) ∧ wl.heap[w.heap.size + 3]? = some (.cells #[zi (t.1.getD 0 0), (.slice none 0 0), (.slice none 0 0), (.slice none 0 0), (.slice none 0 0), zi (t.1.getD 1 0), (.slice none 0 0), (.slice none 0 0), zi (t.1.getD 2 0), zi (t.1.getD 3 0)] 28 (0, 0)) ∧ wl.heap[w.heap.size + 4]? = some (.cells #[.pointer (some ((⟨w.heap.size + 3, 0, none⟩ : Addr).add 0)), .pointer (some ((⟨w.heap.size + 3, 0, none⟩ : Addr).add 5)), .pointer (some ((⟨w.heap.size + 3, 0, none⟩ : Addr).add 8)), .pointer (some ((⟨w.heap.size + 3, 0, none⟩ : Addr).add 9))] 85 (0, 0))) 4 ([], (0, false))
      ⟨rfl, rfl, rfl, rfl, rfl, rfl, rfl, trivial⟩ ⟨rfl, rfl, p4, n4, z4, hZ4, hX4, hP4⟩ ?_
    rintro m ⟨ns, s1⟩ wl frl ⟨hlen, hnum, pl, kl, zl, hZl, hXl, hPl⟩
    dsimp only at hlen hnum pl hXl
    rcases ns with _ | ⟨a0, _ | ⟨a1, _ | ⟨a2, _ | ⟨a3, _ | ⟨x, r⟩⟩⟩⟩⟩
    · refine And.intro (by simp) (And.intro (by simp) ?_)
      refine Exists.intro (some ((⟨w.heap.size + 3, 0, none⟩ : Addr).add 0)) (And.intro (cellB hPl rfl) ?_)
      refine call_ (number_ok h g A c bs s1 wl pl) ?_
      rintro e w4 ⟨q, s4, rfl, rd4, p4, m4⟩
      refine ⟨_, rfl, ?_⟩
      have m4z := m4.size
      have hX4 := m4.blk hXl (nR _ (by omega))
      refine And.intro ⟨_, cellB hX4 rfl⟩ (And.intro (fzB hX4 _) (force_ ?_))
      refine stK hX4 (show (0 : Nat) < 10 by decide) ?_
      intro w5 hX5 m5 s5
      exact ⟨m - 1, ([] ++ [q], s4), (by simp at hlen; omega), ⟨rfl, rfl, rfl, rfl, rfl, rfl, by rfl, trivial⟩, (by simp at hlen ⊢; omega), hnum.snoc rd4, loc p4 m5 (by omega), nl (nw kl m4) m5 (by omega), by omega, m5.blk (m4.blk hZl nR0) (by omega), hX5, m5.blk (m4.blk hPl (nR _ (by omega))) (by omega)⟩
    · refine And.intro (by simp) (And.intro (by simp) ?_)
      refine Exists.intro (some ((⟨w.heap.size + 3, 0, none⟩ : Addr).add 5)) (And.intro (cellB hPl rfl) ?_)
      refine call_ (number_ok h g A c bs s1 wl pl) ?_
      rintro e w4 ⟨q, s4, rfl, rd4, p4, m4⟩
      refine ⟨_, rfl, ?_⟩
      have m4z := m4.size
      have hX4 := m4.blk hXl (nR _ (by omega))
      refine And.intro ⟨_, cellB hX4 rfl⟩ (And.intro (fzB hX4 _) (force_ ?_))
      refine stK hX4 (show (5 : Nat) < 10 by decide) ?_
      intro w5 hX5 m5 s5
      exact ⟨m - 1, ([a0] ++ [q], s4), (by simp at hlen; omega), ⟨rfl, rfl, rfl, rfl, rfl, rfl, by rfl, trivial⟩, (by simp at hlen ⊢; omega), hnum.snoc rd4, loc p4 m5 (by omega), nl (nw kl m4) m5 (by omega), by omega, m5.blk (m4.blk hZl nR0) (by omega), hX5, m5.blk (m4.blk hPl (nR _ (by omega))) (by omega)⟩
    · refine And.intro (by simp) (And.intro (by simp) ?_)
      refine Exists.intro (some ((⟨w.heap.size + 3, 0, none⟩ : Addr).add 8)) (And.intro (cellB hPl rfl) ?_)
      refine call_ (number_ok h g A c bs s1 wl pl) ?_
      rintro e w4 ⟨q, s4, rfl, rd4, p4, m4⟩
      refine ⟨_, rfl, ?_⟩
      have m4z := m4.size
      have hX4 := m4.blk hXl (nR _ (by omega))
      refine And.intro ⟨_, cellB hX4 rfl⟩ (And.intro (fzB hX4 _) (force_ ?_))
      refine stK hX4 (show (8 : Nat) < 10 by decide) ?_
      intro w5 hX5 m5 s5
      exact ⟨m - 1, ([a0, a1] ++ [q], s4), (by simp at hlen; omega), ⟨rfl, rfl, rfl, rfl, rfl, rfl, by rfl, trivial⟩, (by simp at hlen ⊢; omega), hnum.snoc rd4, loc p4 m5 (by omega), nl (nw kl m4) m5 (by omega), by omega, m5.blk (m4.blk hZl nR0) (by omega), hX5, m5.blk (m4.blk hPl (nR _ (by omega))) (by omega)⟩
    · refine And.intro (by simp) (And.intro (by simp) ?_)
      refine Exists.intro (some ((⟨w.heap.size + 3, 0, none⟩ : Addr).add 9)) (And.intro (cellB hPl rfl) ?_)
      refine call_ (number_ok h g A c bs s1 wl pl) ?_
      rintro e w4 ⟨q, s4, rfl, rd4, p4, m4⟩
      refine ⟨_, rfl, ?_⟩
      have m4z := m4.size
      have hX4 := m4.blk hXl (nR _ (by omega))
      refine And.intro ⟨_, cellB hX4 rfl⟩ (And.intro (fzB hX4 _) (force_ ?_))
      refine stK hX4 (show (9 : Nat) < 10 by decide) ?_
      intro w5 hX5 m5 s5
      exact ⟨m - 1, ([a0, a1, a2] ++ [q], s4), (by simp at hlen; omega), ⟨rfl, rfl, rfl, rfl, rfl, rfl, by rfl, trivial⟩, (by simp at hlen ⊢; omega), hnum.snoc rd4, loc p4 m5 (by omega), nl (nw kl m4) m5 (by omega), by omega, m5.blk (m4.blk hZl nR0) (by omega), hX5, m5.blk (m4.blk hPl (nR _ (by omega))) (by omega)⟩
    · obtain ⟨s1, r0, s2, r1, s3, r2, s4, r3, rfl⟩ := hnum
      exact hK () _ _ ⟨rfl, rfl, rfl, rfl, trivial⟩ ⟨a0, a1, a2, a3, s1, s2, s3, s4, r0, r1, r2, r3, pl, kl, zl, hZl, hXl⟩
    · exfalso
      simp at hlen
      omega
  rintro _ w3 fr3 ⟨a0, a1, a2, a3, s1, s2, s3, s4, r0, r1, r2, r3, p3, k3, z3, hZ3, hX3⟩
  refine seq_cut (σ := Value) (fun _ => [(0, .slice A bs.length c), (2, .pointer (some ⟨w.heap.size, 0, none⟩)), (4, .pointer (some ⟨h, 0, none⟩)), (5, .pointer (some ⟨w.heap.size + 3, 0, none⟩))]) (fun v w' => ∃ xs s', LRep intR w' (fun b => b < w.heap.size + 4) v xs ∧ Reads bs (list 4 Image.w4 n8) s4 xs s' ∧ Ir w' h g A c bs s' ∧ New w w' ∧ w.heap.size + 4 ≤ w'.heap.size ∧ w'.heap[w.heap.size]? = some (.cells #[zi 0, (.slice none 0 0), (.slice none 0 0), (.slice none 0 0), (.slice none 0 0), zi 0, (.slice none 0 0), (.slice none 0 0), zi 0, zi 0] 28 (0, 0)) ∧ w'.heap[w.heap.size + 3]? = some (.cells #[zi a0, (.slice none 0 0), (.slice none 0 0), (.slice none 0 0), (.slice none 0 0), zi a1, v, (.slice none 0 0), zi a2, zi a3] 28 (0, 0))) ?_ ?_
  rotate_left
  · intro K hK
    refine call_ (members_int h g A c bs s4 w3 p3 hm) ?_
    rintro e wa ⟨v, xs, s4, rfl, hv, rd4, p4, m4⟩
    have hq := hv
    obtain ⟨A7, c7, ts7, rfl, _⟩ := hv
    refine ⟨_, rfl, ?_⟩
    have m4z := m4.size
    have hX4 := m4.blk hX3 (nR _ (by omega))
    refine And.intro ⟨_, cellB hX4 rfl⟩ (And.intro (fzB hX4 _) (force_ ?_))
    refine stK hX4 (show (6 : Nat) < 10 by decide) ?_
    intro wb hX5 m5 s5
    refine hK _ _ _ ⟨rfl, rfl, rfl, rfl, trivial⟩ ⟨xs, s4, ?_, rd4, loc p4 m5 (by omega), nl (nw k3 m4) m5 (by omega), by omega, m5.blk (m4.blk hZ3 nR0) (by omega), hX5⟩
    · exact LRep.mod intOk (by decide) (LRep.weak intOk (S' := fun b => b < w.heap.size + 4) hq fun b hb e => by omega) (m5.mono fun b hb e => by omega)
  rintro vi w4 fr4 ⟨xsi, ti, hvi, li, p4, k4, z4, hZ4, hX4⟩
  refine seq_cut (σ := Value) (fun _ => [(0, .slice A bs.length c), (2, .pointer (some ⟨w.heap.size, 0, none⟩)), (4, .pointer (some ⟨h, 0, none⟩)), (5, .pointer (some ⟨w.heap.size + 3, 0, none⟩))]) (fun v w' => ∃ xs s', LRep intR w' (fun b => b < w.heap.size + 4) v xs ∧ Reads bs (list 4 Image.w4 n8) ti xs s' ∧ Ir w' h g A c bs s' ∧ New w w' ∧ w.heap.size + 4 ≤ w'.heap.size ∧ w'.heap[w.heap.size]? = some (.cells #[zi 0, (.slice none 0 0), (.slice none 0 0), (.slice none 0 0), (.slice none 0 0), zi 0, (.slice none 0 0), (.slice none 0 0), zi 0, zi 0] 28 (0, 0)) ∧ w'.heap[w.heap.size + 3]? = some (.cells #[zi a0, (.slice none 0 0), (.slice none 0 0), (.slice none 0 0), (.slice none 0 0), zi a1, vi, v, zi a2, zi a3] 28 (0, 0)) ∧ LRep intR w' (fun b => b < w.heap.size + 4) vi xsi) ?_ ?_
  rotate_left
  · intro K hK
    refine call_ (members_int h g A c bs ti w4 p4 hm) ?_
    rintro e wa ⟨v, xs, s4, rfl, hv, rd4, p4, m4⟩
    have hq := hv
    obtain ⟨A7, c7, ts7, rfl, _⟩ := hv
    refine ⟨_, rfl, ?_⟩
    have m4z := m4.size
    have hX4 := m4.blk hX4 (nR _ (by omega))
    refine And.intro ⟨_, cellB hX4 rfl⟩ (And.intro (fzB hX4 _) (force_ ?_))
    refine stK hX4 (show (7 : Nat) < 10 by decide) ?_
    intro wb hX5 m5 s5
    refine hK _ _ _ ⟨rfl, rfl, rfl, rfl, trivial⟩ ⟨xs, s4, ?_, rd4, loc p4 m5 (by omega), nl (nw k4 m4) m5 (by omega), by omega, m5.blk (m4.blk hZ4 nR0) (by omega), hX5, ?_⟩
    · exact LRep.mod intOk (by decide) (LRep.weak intOk (S' := fun b => b < w.heap.size + 4) hq fun b hb e => by omega) (m5.mono fun b hb e => by omega)
    · exact LRep.mod intOk (by decide) (LRep.mod intOk (by decide) hvi (m4.mono fun b hb e => by rcases e with e | e <;> omega)) (m5.mono fun b hb e => by omega)
  rintro vo w5 fr5 ⟨xso, to, hvo, lo, p5, k5, z5, hZ5, hX5, hvi⟩
  refine seq_cut (σ := Value) (fun _ => [(0, .slice A bs.length c), (2, .pointer (some ⟨w.heap.size, 0, none⟩)), (4, .pointer (some ⟨h, 0, none⟩)), (5, .pointer (some ⟨w.heap.size + 3, 0, none⟩))]) (fun v w' => ∃ xs s', LRep valR w' (fun b => b < w.heap.size + 4) v xs ∧ Reads bs (list 4 Image.w4 valF) to xs s' ∧ Ir w' h g A c bs s' ∧ New w w' ∧ w.heap.size + 4 ≤ w'.heap.size ∧ w'.heap[w.heap.size]? = some (.cells #[zi 0, (.slice none 0 0), (.slice none 0 0), (.slice none 0 0), (.slice none 0 0), zi 0, (.slice none 0 0), (.slice none 0 0), zi 0, zi 0] 28 (0, 0)) ∧ w'.heap[w.heap.size + 3]? = some (.cells #[zi a0, (.slice none 0 0), v, (.slice none 0 0), (.slice none 0 0), zi a1, vi, vo, zi a2, zi a3] 28 (0, 0)) ∧ LRep intR w' (fun b => b < w.heap.size + 4) vi xsi ∧ LRep intR w' (fun b => b < w.heap.size + 4) vo xso) ?_ ?_
  rotate_left
  · intro K hK
    refine call_ (members_val h g A c bs to w5 p5 hm) ?_
    rintro e wa ⟨v, xs, s4, rfl, hv, rd4, p4, m4⟩
    have hq := hv
    obtain ⟨A7, c7, ts7, rfl, _⟩ := hv
    refine ⟨_, rfl, ?_⟩
    have m4z := m4.size
    have hX4 := m4.blk hX5 (nR _ (by omega))
    refine And.intro ⟨_, cellB hX4 rfl⟩ (And.intro (fzB hX4 _) (force_ ?_))
    refine stK hX4 (show (2 : Nat) < 10 by decide) ?_
    intro wb hX5 m5 s5
    refine hK _ _ _ ⟨rfl, rfl, rfl, rfl, trivial⟩ ⟨xs, s4, ?_, rd4, loc p4 m5 (by omega), nl (nw k5 m4) m5 (by omega), by omega, m5.blk (m4.blk hZ5 nR0) (by omega), hX5, ?_, ?_⟩
    · exact LRep.mod valOk (by decide) (LRep.weak valOk (S' := fun b => b < w.heap.size + 4) hq fun b hb e => by omega) (m5.mono fun b hb e => by omega)
    · exact LRep.mod intOk (by decide) (LRep.mod intOk (by decide) hvi (m4.mono fun b hb e => by rcases e with e | e <;> omega)) (m5.mono fun b hb e => by omega)
    · exact LRep.mod intOk (by decide) (LRep.mod intOk (by decide) hvo (m4.mono fun b hb e => by rcases e with e | e <;> omega)) (m5.mono fun b hb e => by omega)
  rintro vs w6 fr6 ⟨xss, ts, hvs, ls, p6, k6, z6, hZ6, hX6, hvi, hvo⟩
  refine seq_cut (σ := Value) (fun _ => [(0, .slice A bs.length c), (2, .pointer (some ⟨w.heap.size, 0, none⟩)), (4, .pointer (some ⟨h, 0, none⟩)), (5, .pointer (some ⟨w.heap.size + 3, 0, none⟩))]) (fun v w' => ∃ xs s', LRep objR w' (fun b => b < w.heap.size + 4) v xs ∧ Reads bs (list 4 Image.w4 objF) ts xs s' ∧ Ir w' h g A c bs s' ∧ New w w' ∧ w.heap.size + 4 ≤ w'.heap.size ∧ w'.heap[w.heap.size]? = some (.cells #[zi 0, (.slice none 0 0), (.slice none 0 0), (.slice none 0 0), (.slice none 0 0), zi 0, (.slice none 0 0), (.slice none 0 0), zi 0, zi 0] 28 (0, 0)) ∧ w'.heap[w.heap.size + 3]? = some (.cells #[zi a0, v, vs, (.slice none 0 0), (.slice none 0 0), zi a1, vi, vo, zi a2, zi a3] 28 (0, 0)) ∧ LRep intR w' (fun b => b < w.heap.size + 4) vi xsi ∧ LRep intR w' (fun b => b < w.heap.size + 4) vo xso ∧ LRep valR w' (fun b => b < w.heap.size + 4) vs xss) ?_ ?_
  rotate_left
  · intro K hK
    refine call_ (members_obj h g A c bs ts w6 p6 hm) ?_
    rintro e wa ⟨v, xs, s4, rfl, hv, rd4, p4, m4⟩
    have hq := hv
    obtain ⟨A7, c7, ts7, rfl, _⟩ := hv
    refine ⟨_, rfl, ?_⟩
    have m4z := m4.size
    have hX4 := m4.blk hX6 (nR _ (by omega))
    refine And.intro ⟨_, cellB hX4 rfl⟩ (And.intro (fzB hX4 _) (force_ ?_))
    refine stK hX4 (show (1 : Nat) < 10 by decide) ?_
    intro wb hX5 m5 s5
    refine hK _ _ _ ⟨rfl, rfl, rfl, rfl, trivial⟩ ⟨xs, s4, ?_, rd4, loc p4 m5 (by omega), nl (nw k6 m4) m5 (by omega), by omega, m5.blk (m4.blk hZ6 nR0) (by omega), hX5, ?_, ?_, ?_⟩
    · exact LRep.mod objOk (by decide) (LRep.weak objOk (S' := fun b => b < w.heap.size + 4) hq fun b hb e => by omega) (m5.mono fun b hb e => by omega)
    · exact LRep.mod intOk (by decide) (LRep.mod intOk (by decide) hvi (m4.mono fun b hb e => by rcases e with e | e <;> omega)) (m5.mono fun b hb e => by omega)
    · exact LRep.mod intOk (by decide) (LRep.mod intOk (by decide) hvo (m4.mono fun b hb e => by rcases e with e | e <;> omega)) (m5.mono fun b hb e => by omega)
    · exact LRep.mod valOk (by decide) (LRep.mod valOk (by decide) hvs (m4.mono fun b hb e => by rcases e with e | e <;> omega)) (m5.mono fun b hb e => by omega)
  rintro vb w7 fr7 ⟨xsb, tb, hvb, lb, p7, k7, z7, hZ7, hX7, hvi, hvo, hvs⟩
  refine seq_cut (σ := Value) (fun _ => [(0, .slice A bs.length c), (2, .pointer (some ⟨w.heap.size, 0, none⟩)), (4, .pointer (some ⟨h, 0, none⟩)), (5, .pointer (some ⟨w.heap.size + 3, 0, none⟩))]) (fun v w' => ∃ xs s', LRep thrR w' (fun b => b < w.heap.size + 4) v xs ∧ Reads bs (list 4 Image.w4 thrF) tb xs s' ∧ Ir w' h g A c bs s' ∧ New w w' ∧ w.heap.size + 4 ≤ w'.heap.size ∧ w'.heap[w.heap.size]? = some (.cells #[zi 0, (.slice none 0 0), (.slice none 0 0), (.slice none 0 0), (.slice none 0 0), zi 0, (.slice none 0 0), (.slice none 0 0), zi 0, zi 0] 28 (0, 0)) ∧ w'.heap[w.heap.size + 3]? = some (.cells #[zi a0, vb, vs, v, (.slice none 0 0), zi a1, vi, vo, zi a2, zi a3] 28 (0, 0)) ∧ LRep intR w' (fun b => b < w.heap.size + 4) vi xsi ∧ LRep intR w' (fun b => b < w.heap.size + 4) vo xso ∧ LRep valR w' (fun b => b < w.heap.size + 4) vs xss ∧ LRep objR w' (fun b => b < w.heap.size + 4) vb xsb) ?_ ?_
  rotate_left
  · intro K hK
    refine call_ (members_thr h g A c bs tb w7 p7 hm) ?_
    rintro e wa ⟨v, xs, s4, rfl, hv, rd4, p4, m4⟩
    have hq := hv
    obtain ⟨A7, c7, ts7, rfl, _⟩ := hv
    refine ⟨_, rfl, ?_⟩
    have m4z := m4.size
    have hX4 := m4.blk hX7 (nR _ (by omega))
    refine And.intro ⟨_, cellB hX4 rfl⟩ (And.intro (fzB hX4 _) (force_ ?_))
    refine stK hX4 (show (3 : Nat) < 10 by decide) ?_
    intro wb hX5 m5 s5
    refine hK _ _ _ ⟨rfl, rfl, rfl, rfl, trivial⟩ ⟨xs, s4, ?_, rd4, loc p4 m5 (by omega), nl (nw k7 m4) m5 (by omega), by omega, m5.blk (m4.blk hZ7 nR0) (by omega), hX5, ?_, ?_, ?_, ?_⟩
    · exact LRep.mod thrOk (by decide) (LRep.weak thrOk (S' := fun b => b < w.heap.size + 4) hq fun b hb e => by omega) (m5.mono fun b hb e => by omega)
    · exact LRep.mod intOk (by decide) (LRep.mod intOk (by decide) hvi (m4.mono fun b hb e => by rcases e with e | e <;> omega)) (m5.mono fun b hb e => by omega)
    · exact LRep.mod intOk (by decide) (LRep.mod intOk (by decide) hvo (m4.mono fun b hb e => by rcases e with e | e <;> omega)) (m5.mono fun b hb e => by omega)
    · exact LRep.mod valOk (by decide) (LRep.mod valOk (by decide) hvs (m4.mono fun b hb e => by rcases e with e | e <;> omega)) (m5.mono fun b hb e => by omega)
    · exact LRep.mod objOk (by decide) (LRep.mod objOk (by decide) hvb (m4.mono fun b hb e => by rcases e with e | e <;> omega)) (m5.mono fun b hb e => by omega)
  rintro vt w8 fr8 ⟨xst, tt, hvt, lt, p8, k8, z8, hZ8, hX8, hvi, hvo, hvs, hvb⟩
  refine seq_cut (σ := Value) (fun _ => [(0, .slice A bs.length c), (2, .pointer (some ⟨w.heap.size, 0, none⟩)), (4, .pointer (some ⟨h, 0, none⟩)), (5, .pointer (some ⟨w.heap.size + 3, 0, none⟩))]) (fun v w' => ∃ xs s', LRep monR w' (fun b => b < w.heap.size + 4) v xs ∧ Reads bs (list 4 Image.w4 monF) tt xs s' ∧ Ir w' h g A c bs s' ∧ New w w' ∧ w.heap.size + 4 ≤ w'.heap.size ∧ w'.heap[w.heap.size]? = some (.cells #[zi 0, (.slice none 0 0), (.slice none 0 0), (.slice none 0 0), (.slice none 0 0), zi 0, (.slice none 0 0), (.slice none 0 0), zi 0, zi 0] 28 (0, 0)) ∧ w'.heap[w.heap.size + 3]? = some (.cells #[zi a0, vb, vs, vt, v, zi a1, vi, vo, zi a2, zi a3] 28 (0, 0)) ∧ LRep intR w' (fun b => b < w.heap.size + 4) vi xsi ∧ LRep intR w' (fun b => b < w.heap.size + 4) vo xso ∧ LRep valR w' (fun b => b < w.heap.size + 4) vs xss ∧ LRep objR w' (fun b => b < w.heap.size + 4) vb xsb ∧ LRep thrR w' (fun b => b < w.heap.size + 4) vt xst) ?_ ?_
  rotate_left
  · intro K hK
    refine call_ (members_mon h g A c bs tt w8 p8 hm) ?_
    rintro e wa ⟨v, xs, s4, rfl, hv, rd4, p4, m4⟩
    have hq := hv
    obtain ⟨A7, c7, ts7, rfl, _⟩ := hv
    refine ⟨_, rfl, ?_⟩
    have m4z := m4.size
    have hX4 := m4.blk hX8 (nR _ (by omega))
    refine And.intro ⟨_, cellB hX4 rfl⟩ (And.intro (fzB hX4 _) (force_ ?_))
    refine stK hX4 (show (4 : Nat) < 10 by decide) ?_
    intro wb hX5 m5 s5
    refine hK _ _ _ ⟨rfl, rfl, rfl, rfl, trivial⟩ ⟨xs, s4, ?_, rd4, loc p4 m5 (by omega), nl (nw k8 m4) m5 (by omega), by omega, m5.blk (m4.blk hZ8 nR0) (by omega), hX5, ?_, ?_, ?_, ?_, ?_⟩
    · exact LRep.mod monOk (by decide) (LRep.weak monOk (S' := fun b => b < w.heap.size + 4) hq fun b hb e => by omega) (m5.mono fun b hb e => by omega)
    · exact LRep.mod intOk (by decide) (LRep.mod intOk (by decide) hvi (m4.mono fun b hb e => by rcases e with e | e <;> omega)) (m5.mono fun b hb e => by omega)
    · exact LRep.mod intOk (by decide) (LRep.mod intOk (by decide) hvo (m4.mono fun b hb e => by rcases e with e | e <;> omega)) (m5.mono fun b hb e => by omega)
    · exact LRep.mod valOk (by decide) (LRep.mod valOk (by decide) hvs (m4.mono fun b hb e => by rcases e with e | e <;> omega)) (m5.mono fun b hb e => by omega)
    · exact LRep.mod objOk (by decide) (LRep.mod objOk (by decide) hvb (m4.mono fun b hb e => by rcases e with e | e <;> omega)) (m5.mono fun b hb e => by omega)
    · exact LRep.mod thrOk (by decide) (LRep.mod thrOk (by decide) hvt (m4.mono fun b hb e => by rcases e with e | e <;> omega)) (m5.mono fun b hb e => by omega)
  rintro vm w9 fr9 ⟨xsm, tm, hvm, lm, p9, k9, z9, hZ9, hX9, hvi, hvo, hvs, hvb, hvt⟩
  have hreads : Reads bs machF (0, false) ⟨a0, a1, a2, a3, xsi, xso, xss, xsb, xst, xsm⟩ tm := reads_mach r0 r1 r2 r3 li lo ls lb lt lm
  have hpar := reads_parse hreads
  have hrep : machR w9 (fun b => b < w.heap.size + 4) [zi a0, vb, vs, vt, vm, zi a1, vi, vo, zi a2, zi a3] ⟨a0, a1, a2, a3, xsi, xso, xss, xsb, xst, xsm⟩ := ⟨vb, vs, vt, vm, vi, vo, rfl, hvb, hvs, hvt, hvm, hvi, hvo⟩
  clear hreads r0 r1 r2 r3 li lo ls lb lt lm hvb hvs hvt hvm hvi hvo
  have hat := p9.rd.at_
  -- is it one?
  refine seq_cut (σ := Unit) (fun _ => [(2, .pointer (some ⟨w.heap.size, 0, none⟩)), (5, .pointer (some ⟨w.heap.size + 3, 0, none⟩))]) (fun _ w' => New w9 w' ∧ parseM bs = some ⟨a0, a1, a2, a3, xsi, xso, xss, xsb, xst, xsm⟩) ?_ ?_
  rotate_left
  · intro K hK
    refine seq_cut (σ := Bool) (fun b => [(2, .pointer (some ⟨w.heap.size, 0, none⟩)), (5, .pointer (some ⟨w.heap.size + 3, 0, none⟩)), (74, .bool b)]) (fun b w' => New w9 w' ∧ (b = true → parseM bs = none) ∧ (b = false → parseM bs = some ⟨a0, a1, a2, a3, xsi, xso, xss, xsb, xst, xsm⟩)) ?_ ?_
    rotate_left
    · intro K2 hK2
      refine Exists.intro tm.2 (And.intro (cellB p9.blk rfl) ?_)
      refine if_ (fun hb => ?_) (fun hb => ?_)
      · exact hK2 true _ _ ⟨rfl, rfl, rfl, trivial⟩ ⟨New.refl _, fun _ => by rw [hpar, if_neg (fun hc => by rw [hc.1] at hb; cases hb)], fun h => by cases h⟩
      refine Exists.intro (some ⟨g, 0, none⟩) (And.intro (cellB p9.blk rfl) ?_)
      refine call_ (Left_ok g A c bs tm.1 w9 p9.rd) ?_
      rintro e wa ⟨rfl, na⟩
      refine ⟨_, rfl, ?_⟩
      refine if_p (fun hl => ?_) (fun hl => ?_)
      · replace hl : (0 : Int) < (bs.length : Int) - tm.1 := hl
        exact hK2 true _ _ ⟨rfl, rfl, rfl, trivial⟩ ⟨na, fun _ => by rw [hpar, if_neg (fun hc => by have := hc.2.1; omega)], fun h => by cases h⟩
      replace hl : ¬ (0 : Int) < (bs.length : Int) - tm.1 := hl
      refine call_ (Pages_ok bs.length wa (by omega)) ?_
      rintro e wb ⟨rfl, hwb⟩
      obtain rfl := hwb.symm
      refine ⟨_, rfl, ?_⟩
      refine hK2 (decide ((4096 : Int) < (pagesOf bs.length : Int))) _ _ ⟨rfl, rfl, rfl, trivial⟩ ⟨na, fun h => ?_, fun h => ?_⟩
      · have h4 := (pages_most bs.length).1 (by have := of_decide_eq_true h; omega)
        rw [hpar, if_neg (fun hc => by have := hc.2.2; omega)]
      · have h4 : ¬ most < bs.length := fun hc => by
          have h5 := (pages_most bs.length).2 hc
          have := of_decide_eq_false h
          omega
        rw [hpar, if_pos ⟨hb, by omega, by omega⟩]
    rintro b wa fra ⟨na, hb1, hb2⟩
    refine if_ (fun hb => ?_) (fun hb => ?_)
    · refine And.intro rfl ?_
      refine storeN_all (vs := [zi 0, (.slice none 0 0), (.slice none 0 0), (.slice none 0 0), (.slice none 0 0), zi 0, (.slice none 0 0), (.slice none 0 0), zi 0, zi 0]) (na.blk hZ9) rfl (machOk.one (void_rep w9 fun _ => False)) ?_
      intro w90 hb90 m90 s90
      refine loadN_row (vs := [zi 0, (.slice none 0 0), (.slice none 0 0), (.slice none 0 0), (.slice none 0 0), zi 0, (.slice none 0 0), (.slice none 0 0), zi 0, zi 0]) (rowB hb90) rfl ?_
      exact pres_none (hb1 hb) (nl (k9.trans na) m90 (Nat.le_refl _))
    · exact hK () _ _ ⟨rfl, rfl, trivial⟩ ⟨na, hb2 hb⟩
  rintro _ wa fra ⟨na, hsome⟩
  have hrepa := machOk.mod hrep na.mod
  obtain ⟨_, _, _, _, _, _, he, h1, h2, h3, h4, h5, h6⟩ := hrep
  obtain ⟨rfl, rfl, rfl, rfl, rfl, rfl⟩ : _ ∧ _ ∧ _ ∧ _ ∧ _ ∧ _ := by
    simp only [List.cons.injEq, true_and, and_true] at he
    exact he
  obtain ⟨Ab, cb, tsb, rfl, _⟩ := h1
  obtain ⟨As, cs, tss, rfl, _⟩ := h2
  obtain ⟨At, ct, tst, rfl, _⟩ := h3
  obtain ⟨Am, cm, tsm, rfl, _⟩ := h4
  obtain ⟨Ai, ci, tsi, rfl, _⟩ := h5
  obtain ⟨Ao, co, tso, rfl, _⟩ := h6
  refine loadN_row (vs := [zi a0, (.slice Ab xsb.length cb), (.slice As xss.length cs), (.slice At xst.length ct), (.slice Am xsm.length cm), zi a1, (.slice Ai xsi.length ci), (.slice Ao xso.length co), zi a2, zi a3]) (rowB (na.blk hX9)) rfl ?_
  refine And.intro rfl ?_
  refine storeN_all (vs := [zi a0, (.slice Ab xsb.length cb), (.slice As xss.length cs), (.slice At xst.length ct), (.slice Am xsm.length cm), zi a1, (.slice Ai xsi.length ci), (.slice Ao xso.length co), zi a2, zi a3]) (na.blk hZ9) rfl (machOk.one hrepa) ?_
  intro w90 hb90 m90 s90
  refine loadN_row (vs := [zi a0, (.slice Ab xsb.length cb), (.slice As xss.length cs), (.slice At xst.length ct), (.slice Am xsm.length cm), zi a1, (.slice Ai xsi.length ci), (.slice Ao xso.length co), zi a2, zi a3]) (rowB hb90) rfl ?_
  have he0 : perr bs = 0 := by
    unfold perr
    rw [hsome]
  refine ⟨[zi a0, (.slice Ab xsb.length cb), (.slice As xss.length cs), (.slice At xst.length ct), (.slice Am xsm.length cm), zi a1, (.slice Ai xsi.length ci), (.slice Ao xso.length co), zi a2, zi a3], by rw [he0]; rfl, ?_, nl (k9.trans na) m90 (Nat.le_refl _)⟩
  rw [hsome]
  exact machOk.weak (machOk.mod hrepa (m90.mono fun b hb e => by omega)) fun b hb e => by omega
end Go.Proofs.Yteanhakkceancaa.Image
