/- The package code, walked: numbers and places written, unless there are none. -/
import Derived.Test.YtcpeekeiflglpaaCWalk5
namespace Go.Proofs.Ytcpeekeiflglpaa.Code
open Go Go.Proofs.Ytcpeekeiflglpaa Go.Proofs.Ytcpeekeiflglpaa.Eng Go.Proofs Go.Proofs.Ytcpeekeiflglpaa.Word
open Go.Proofs.Ytcpeekeiflglpaa.Pool (both own_low)
set_option maxRecDepth 10000

abbrev WT := List UInt8 × Bool
/-- A writer of instructions in memory. -/
structure Cw (w : World) (base h g : Nat) (v : Value) (t : WT) : Prop where
  blk : w.heap[h]? = some (.cells #[.pointer (some ⟨g, 0, none⟩), .bool t.2] 97 (0, 0))
  wr : Wr w base g v t.1
  ne : h ≠ g
  off : v.ownBlock ≠ some h
theorem Cw.lt {w : World} {base h g : Nat} {v : Value} {t : WT} (c : Cw w base h g v t) : h < w.heap.size ∧ g < w.heap.size := ⟨(Array.getElem?_eq_some_iff.1 c.blk).1, c.wr.lt⟩
theorem Cw.new {w w' : World} {base h g : Nat} {v : Value} {t : WT} (c : Cw w base h g v t) (n : New w w') : Cw w' base h g v t := ⟨n.blk c.blk, c.wr.new n, c.ne, c.off⟩
abbrev WH (h g : Nat) (v : Value) : Nat → Prop := fun b => WS g v b ∨ b = h
structure Ck (w : World) (base h g : Nat) (v : Value) (w' : World) (v' : Value) (t : WT) : Prop where
  cw : Cw w' base h g v' t
  mod : Mod (WH h g v) w w'
  st : stayed w v v'
theorem Ck.refl {w : World} {base h g : Nat} {v : Value} {t : WT} (c : Cw w base h g v t) : Ck w base h g v w v t := ⟨c, Mod.refl _ _, stayed.refl w v⟩
theorem Ck.new {w w' w2 : World} {base h g : Nat} {v v' : Value} {t : WT} (c : Ck w base h g v w' v' t) (n : New w' w2) : Ck w base h g v w2 v' t := ⟨c.cw.new n, both c.mod n.mod, c.st⟩
theorem Ck.then {w w1 w2 : World} {base h g : Nat} {v v1 v2 : Value} {t t2 : WT} (c : Ck w base h g v w1 v1 t) (k : Ck w1 base h g v1 w2 v2 t2) : Ck w base h g v w2 v2 t2 := by
  refine ⟨k.cw, Mod.trans c.mod k.mod ?_, stayed.trans c.st c.mod.size k.st⟩
  rintro b hb ((e | e) | e)
  · exact .inl (.inl e)
  · rcases c.st b e.symm with h1 | h1
    · exact .inl (.inr h1.symm)
    · omega
  · exact .inr e
theorem Ck.base {w w' : World} {base h g : Nat} {v v' : Value} {t : WT} (c : Ck w base h g v w' v' t) (hb : base ≤ w.heap.size) : base ≤ w'.heap.size := Nat.le_trans hb c.mod.size
theorem wr_mod {S : Nat → Prop} {w w' : World} {base g : Nat} {v : Value} {bs : List UInt8} (h : Wr w base g v bs) (m : Mod S w w') (hg : ¬ S g) (hv : ∀ k, v.ownBlock = some k → ¬ S k) : Wr w' base g v bs :=
  ⟨m.blk h.blk hg, own_mod m h.own hv, h.off⟩
/-- The mark set. -/
theorem Cw.set {w w' : World} {base h g : Nat} {v : Value} {t : WT} (c : Cw w base h g v t) (m : Mod (fun b => b = h) w w') {b : Bool} (hb : w'.heap[h]? = some (.cells #[.pointer (some ⟨g, 0, none⟩), .bool b] 97 (0, 0))) : Ck w base h g v w' v (t.1, b) :=
  ⟨⟨hb, wr_mod c.wr m (fun e => c.ne e.symm) (fun k hk e => c.off (by rw [hk, e])), c.ne, c.off⟩, m.mono fun _ _ e => .inr e, stayed.refl w v⟩
/-- A word's act. -/
theorem Cw.act {w w' : World} {base h g : Nat} {v v' : Value} {t : WT} {bs : List UInt8} (c : Cw w base h g v t) (k : Wk w base g v w' v' bs) : Ck w base h g v w' v' (bs, t.2) := by
  have hl := c.lt.1
  refine ⟨⟨k.mod.blk c.blk ?_, k.wr, c.ne, ?_⟩, k.mod.mono fun _ _ e => .inl e, k.st⟩
  · rintro (e | e)
    · exact c.ne e
    · exact c.off e.symm
  · intro e
    rcases k.st h e with e | e
    · exact c.off e
    · omega
def putS (t : WT) (k : Nat) (sign : Bool) (zs : List Int) : WT := if t.2 = true then t else (allBs t.1 k sign zs, !good k sign zs)
def wayW (sign : Bool) : FuncId := bif sign then 43 else 41
abbrev wayX (sign : Bool) (g : Nat) : Value := .func (.func (wayW sign)) #[.pointer (some ⟨g, 0, none⟩)] #[]
theorem allErr_good (k : Int) (sign : Bool) (zs : List Int) : (!decide (allErr k sign zs = 0)) = !good k sign zs := by
  unfold allErr
  cases good k sign zs <;> rfl
theorem put_ok (base h g : Nat) (v : Value) (t : WT) (sign : Bool) (k : Nat) (C : Option Addr) (q qc : Nat) (zs : List Int) (w : World) (c : Cw w base h g v t) (hz : Row w C (ivs zs)) (hq : q = zs.length) (hC : ∀ a, C = some a → zs ≠ [] → ¬ WS g v a.block)
    (hm : t.1.length + 8 * zs.length ≤ 140737488355328) (hb : base ≤ w.heap.size) :
    Calls Try.prog 74 #[.pointer (some ⟨h, 0, none⟩), wayX sign g, .int .i64 (k : Int), .slice C q qc] w fun e w' => e = .returned (.tuple #[]) ∧ ∃ v', Ck w base h g v w' v' (putS t k sign zs) := by
  cases sign with
  | true =>
    refine enter ok Try.func74 rfl rfl rfl ?_
    refine Exists.intro t.2 (And.intro (cellB c.blk rfl) ?_)
    unfold putS
    refine if_ (fun hx => ?_) (fun hx => ?_)
    · rw [if_pos hx]
      have hb1 := c.blk
      refine And.intro ⟨_, cellB hb1 rfl⟩ (And.intro (fzB hb1 _) (force_ ?_))
      refine stK hb1 (show (1 : Nat) < 2 by decide) ?_
      intro w1 hb2 m1 s1
      have := c.set m1 (b := true) hb2
      rw [show ((t.1, true) : WT) = t from Prod.ext rfl hx.symm] at this
      exact ⟨rfl, v, this⟩
    · rw [if_neg (by rw [hx]; decide)]
      refine call_ (WS_ok base g v t.1 k C q qc zs w c.wr hz hq hC hm hb) ?_
      rintro e w1 ⟨rfl, v1, h1, h2, h3⟩
      refine ⟨_, rfl, ?_⟩
      have c1 := c.act ⟨h1, h2, h3⟩
      have hb1 := c1.cw.blk
      refine And.intro ⟨_, cellB hb1 rfl⟩ (And.intro (fzB hb1 _) (force_ ?_))
      refine stK hb1 (show (1 : Nat) < 2 by decide) ?_
      intro w2 hb2 m2 s2
      have := c1.then (c1.cw.set m2 (b := !decide (allErr k true zs = 0)) hb2)
      rw [allErr_good] at this
      exact ⟨rfl, v1, this⟩
  | false =>
    refine enter ok Try.func74 rfl rfl rfl ?_
    refine Exists.intro t.2 (And.intro (cellB c.blk rfl) ?_)
    unfold putS
    refine if_ (fun hx => ?_) (fun hx => ?_)
    · rw [if_pos hx]
      have hb1 := c.blk
      refine And.intro ⟨_, cellB hb1 rfl⟩ (And.intro (fzB hb1 _) (force_ ?_))
      refine stK hb1 (show (1 : Nat) < 2 by decide) ?_
      intro w1 hb2 m1 s1
      have := c.set m1 (b := true) hb2
      rw [show ((t.1, true) : WT) = t from Prod.ext rfl hx.symm] at this
      exact ⟨rfl, v, this⟩
    · rw [if_neg (by rw [hx]; decide)]
      refine call_ (WU_ok base g v t.1 k C q qc zs w c.wr hz hq hC hm hb) ?_
      rintro e w1 ⟨rfl, v1, h1, h2, h3⟩
      refine ⟨_, rfl, ?_⟩
      have c1 := c.act ⟨h1, h2, h3⟩
      have hb1 := c1.cw.blk
      refine And.intro ⟨_, cellB hb1 rfl⟩ (And.intro (fzB hb1 _) (force_ ?_))
      refine stK hb1 (show (1 : Nat) < 2 by decide) ?_
      intro w2 hb2 m2 s2
      have := c1.then (c1.cw.set m2 (b := !decide (allErr k false zs = 0)) hb2)
      rw [allErr_good] at this
      exact ⟨rfl, v1, this⟩
/-- Put what lies in a block of its own. -/
theorem put1_ok (base h g : Nat) (v : Value) (t : WT) (sign : Bool) (k : Nat) (zs : List Int) (n : Nat) (w : World) (c : Cw w base h g v t) (hn : n = zs.length) (hm : t.1.length + 8 * zs.length ≤ 140737488355328) (hb : base ≤ w.heap.size) :
    Calls Try.prog 74 #[.pointer (some ⟨h, 0, none⟩), wayX sign g, .int .i64 (k : Int), .slice (some ⟨w.heap.size, 0, none⟩) n n] (w.alloc (.cells (ivs zs).toArray 3)) fun e w' => e = .returned (.tuple #[]) ∧ ∃ v', Ck w base h g v w' v' (putS t k sign zs) := by
  have n1 := New.alloc w (.cells (ivs zs).toArray 3)
  refine (put_ok base h g v t sign k (some ⟨w.heap.size, 0, none⟩) n n zs _ (c.new n1) (row_alloc w (ivs zs) _ _) hn c.wr.off1 hm (Nat.le_trans hb n1.size)).mono ?_
  rintro e w' ⟨rfl, v', k'⟩
  exact ⟨rfl, v', ((Ck.refl c).new n1).then k'⟩

/-! ### Places -/
def placeS (t : WT) (p to : Int) : Int × WT := if t.2 = true ∨ to < 0 ∨ 65535 < to then (0, t.1, true) else (to - p, t.1, false)
theorem place_ok (base h g : Nat) (v : Value) (t : WT) (x : Ins) (u : Value) (to : Int) (w : World) (c : Cw w base h g v t) (hp : 0 ≤ x.p ∧ x.p ≤ 2000000000) :
    Calls Try.prog 75 #[.pointer (some ⟨h, 0, none⟩), .agg (insC x u).toArray, .int .i64 to] w fun e w' => e = .returned (.int .i64 (placeS t x.p to).1) ∧ Ck w base h g v w' v (placeS t x.p to).2 := by
  refine enter ok Try.func75 rfl rfl rfl ?_
  have n0 := New.alloc w (.cells (insC x u).toArray 62)
  have hI0 := heap_alloc_new w (.cells (insC x u).toArray 62)
  have hl := c.lt.1
  have hIh : w.heap.size ≠ h := by omega
  refine seq_cut (σ := Unit) (fun _ => [(0, .pointer (some ⟨h, 0, none⟩)), (2, .int .i64 to), (4, .pointer (some ⟨w.heap.size, 0, none⟩))]) (fun _ w' => Ck w base h g v w' v t ∧ w'.heap[w.heap.size]? = some (.cells (insC x u).toArray 62 (0, 0))) ?_ ?_
  rotate_left
  · intro K hK
    exact hK () _ _ ⟨rfl, rfl, rfl, trivial⟩ ⟨(Ck.refl c).new n0, hI0⟩
  rintro _ w1 fr1 ⟨c1, hI1⟩
  refine seq_cut (σ := Bool) (fun _ => [(0, .pointer (some ⟨h, 0, none⟩)), (2, .int .i64 to), (4, .pointer (some ⟨w.heap.size, 0, none⟩))]) (fun b w' => b = decide (t.2 = true ∨ to < 0 ∨ 65535 < to) ∧ Ck w base h g v w' v (t.1, b) ∧ w'.heap[w.heap.size]? = some (.cells (insC x u).toArray 62 (0, 0))) ?_ ?_
  rotate_left
  · intro K hK
    have hb1 := c1.cw.blk
    refine Exists.intro t.2 (And.intro (cellB hb1 rfl) ?_)
    refine if_ (fun hx => ?_) (fun hx => ?_)
    · refine And.intro ⟨_, cellB hb1 rfl⟩ (And.intro (fzB hb1 _) (force_ ?_))
      refine stK hb1 (show (1 : Nat) < 2 by decide) ?_
      intro w2 hb2 m2 s2
      exact hK true _ _ ⟨rfl, rfl, rfl, trivial⟩ ⟨(decide_eq_true (.inl hx)).symm, c1.then (c1.cw.set m2 (b := true) hb2), m2.blk hI1 hIh⟩
    · refine if_p (fun h0 => ?_) (fun h0 => ?_)
      · replace h0 : to < 0 := h0
        refine And.intro ⟨_, cellB hb1 rfl⟩ (And.intro (fzB hb1 _) (force_ ?_))
        refine stK hb1 (show (1 : Nat) < 2 by decide) ?_
        intro w2 hb2 m2 s2
        exact hK true _ _ ⟨rfl, rfl, rfl, trivial⟩ ⟨(decide_eq_true (.inr (.inl h0))).symm, c1.then (c1.cw.set m2 (b := true) hb2), m2.blk hI1 hIh⟩
      · replace h0 : ¬ to < 0 := h0
        refine And.intro ⟨_, cellB hb1 rfl⟩ (And.intro (fzB hb1 _) (force_ ?_))
        refine stK hb1 (show (1 : Nat) < 2 by decide) ?_
        intro w2 hb2 m2 s2
        refine hK (decide (65535 < to)) _ _ ⟨rfl, rfl, rfl, trivial⟩ ⟨decide_eq_decide.2 ⟨fun h => .inr (.inr h), fun h => ?_⟩, c1.then (c1.cw.set m2 (b := decide (65535 < to)) hb2), m2.blk hI1 hIh⟩
        rcases h with h | h | h
        · rw [hx] at h
          cases h
        · exact absurd h h0
        · exact h
  rintro b w2 fr2 ⟨hb, c2, hI2⟩
  refine Exists.intro b (And.intro (cellB c2.cw.blk rfl) ?_)
  unfold placeS
  refine if_ (fun hx => ?_) (fun hx => ?_)
  · subst hx
    rw [if_pos (of_decide_eq_true hb.symm)]
    exact ⟨rfl, c2⟩
  · subst hx
    have hn := of_decide_eq_false hb.symm
    rw [if_neg hn]
    refine Exists.intro x.p (And.intro (cellB hI2 rfl) ?_)
    refine ⟨?_, c2⟩
    show Ending.returned (.int .i64 (IntKind.i64.wrap (to - x.p))) = _
    rw [wrap_i64 (by omega) (by omega)]

/-! ### Cases -/
def wcaseS (srch : Bool) (p : Int) (t : WT) (c : Cs) : WT :=
  let t1 := if srch = true then putS t 4 true [c.key] else t
  putS (placeS t1 p c.to).2 4 true [(placeS t1 p c.to).1]
def wheadS (srch : Bool) (x : Ins) (t : WT) : WT :=
  let t1 : WT := (t.1 ++ List.replicate (padOf x.p.toNat) 0, t.2)
  let t2 := putS (placeS t1 x.p x.a).2 4 true [(placeS t1 x.p x.a).1]
  if srch = true then putS t2 4 false [(x.cs.length : Int)] else putS t2 4 true [x.b, x.b + x.cs.length - 1]
def wcasesS (srch : Bool) (x : Ins) (t : WT) : WT :=
  if 256 < x.cs.length ∨ ¬ x.b = IntKind.i64.wrap (IntKind.i32.wrap x.b) then (t.1, true) else x.cs.foldl (wcaseS srch x.p) (wheadS srch x t)
theorem putS_len (t : WT) (k : Nat) (sign : Bool) (zs : List Int) : t.1.length ≤ (putS t k sign zs).1.length ∧ (putS t k sign zs).1.length ≤ t.1.length + k * zs.length := by
  unfold putS
  split
  · exact ⟨Nat.le_refl _, Nat.le_add_right _ _⟩
  · unfold allBs
    dsimp only
    split
    · rw [Int.toNat_natCast, List.length_append, flat_length]
      omega
    · omega
theorem placeS_len (t : WT) (p to : Int) : (placeS t p to).2.1 = t.1 := by unfold placeS; split <;> rfl
theorem wcaseS_len (srch : Bool) (p : Int) (t : WT) (c : Cs) : (wcaseS srch p t c).1.length ≤ t.1.length + 8 := by
  unfold wcaseS
  dsimp only
  generalize ht : (if srch = true then putS t 4 true [c.key] else t) = t1
  have h1 : t1.1.length ≤ t.1.length + 4 := by
    rw [← ht]
    split
    · have := (putS_len t 4 true [c.key]).2
      simpa using this
    · omega
  have h2 := (putS_len (placeS t1 p c.to).2 4 true [(placeS t1 p c.to).1]).2
  rw [placeS_len] at h2
  simp at h2
  omega
theorem wheadS_len (srch : Bool) (x : Ins) (t : WT) : (wheadS srch x t).1.length ≤ t.1.length + 15 := by
  unfold wheadS
  dsimp only
  generalize ht : ((t.1 ++ List.replicate (padOf x.p.toNat) 0, t.2) : WT) = t1
  have h0 : t1.1.length ≤ t.1.length + 3 := by
    rw [← ht]
    simp [padOf]
  have h1 := (putS_len (placeS t1 x.p x.a).2 4 true [(placeS t1 x.p x.a).1]).2
  rw [placeS_len] at h1
  generalize putS (placeS t1 x.p x.a).2 4 true [(placeS t1 x.p x.a).1] = t2 at h1
  simp at h1
  split
  · have := (putS_len t2 4 false [(x.cs.length : Int)]).2
    simp at this
    omega
  · have := (putS_len t2 4 true [x.b, x.b + x.cs.length - 1]).2
    simp at this
    omega
theorem wfold_len (srch : Bool) (p : Int) : ∀ (l : List Cs) (t : WT), (l.foldl (wcaseS srch p) t).1.length ≤ t.1.length + 8 * l.length
  | [], t => by simp
  | c :: l, t => by
    have h1 := wcaseS_len srch p t c
    have h2 := wfold_len srch p l (wcaseS srch p t c)
    rw [List.foldl_cons, List.length_cons]
    omega
end Go.Proofs.Ytcpeekeiflglpaa.Code
