/- The package code, walked: where an instruction leads. -/
import Derived.Test.YtcpeekeiflglpaaCWalk4
import Derived.Test.YtcpeekeiflglpaaMap
namespace Go.Proofs.Ytcpeekeiflglpaa.Code
open Go Go.Proofs.Ytcpeekeiflglpaa Go.Proofs.Ytcpeekeiflglpaa.Eng Go.Proofs Go.Proofs.Ytcpeekeiflglpaa.Word
open Go.Proofs.Ytcpeekeiflglpaa.Pool (numR numR_err rd_modN rd_low RS both own_low)
set_option maxRecDepth 10000

/-! ### Instructions in memory -/
/-- No block of these cases is one of those. -/
def Off (S : Nat → Prop) (v : Value) : Prop := ∀ a n c, v = .slice (some a) n c → n ≠ 0 → ¬ S a.block
structure CsV (w : World) (v : Value) (cs : List Cs) : Prop where
  at_ : ∃ A c, v = .slice A cs.length c ∧ Row w A (csF cs)
  len : cs.length ≤ 8796093022208
theorem CsV.modN {S : Nat → Prop} {w w' : World} {v : Value} {cs : List Cs} (h : CsV w v cs) (m : Mod S w w') (hs : Off S v) : CsV w' v cs := by
  obtain ⟨⟨A, c, e, r⟩, hl⟩ := h
  refine ⟨⟨A, c, e, ?_⟩, hl⟩
  by_cases hcs : cs = []
  · subst hcs
    exact Row.nil _ _
  · refine r.mod m (fun a ha => ?_)
    subst ha
    exact hs a _ _ e (fun h0 => hcs (List.length_eq_zero_iff.1 h0))
theorem CsV.new {w w' : World} {v : Value} {cs : List Cs} (h : CsV w v cs) (m : New w w') : CsV w' v cs := h.modN m (fun _ _ _ _ _ h => h)
theorem CsV.one {w : World} {v : Value} {cs : List Cs} (h : CsV w v cs) : v.oneCell' = true := by
  obtain ⟨⟨A, c, e, _⟩, _⟩ := h
  rw [e]
  rfl
theorem CsV.low {w : World} {v : Value} {cs : List Cs} (h : CsV w v cs) {a : Addr} {n c : Nat} (e : v = .slice (some a) n c) (hn : n ≠ 0) : a.block < w.heap.size := by
  obtain ⟨⟨A, c', e', r⟩, _⟩ := h
  rw [e] at e'
  cases e'
  exact r.lt (fun h0 => by
    have := congrArg List.length h0
    rw [csF_len] at this
    simp only [List.length_nil] at this
    omega) rfl
theorem csV_own {w : World} {base : Nat} {v : Value} {cs : List Cs} (h : w.ownsRow base 93 2 v cs.length (csF cs)) (hl : cs.length ≤ 8796093022208) : CsV w v cs := by
  obtain ⟨A, c, e, _, _, r, _⟩ := own_slice h
  exact ⟨⟨A, c, e, r⟩, hl⟩
theorem off_own {w : World} {base : Nat} {v : Value} {n : Nat} {xs : List Value} {sz : Nat} {t : TypeId} (h : w.ownsRow base t sz v n xs) {S : Nat → Prop} (hs : ∀ b, base ≤ b → b < w.heap.size → ¬ S b) : Off S v := by
  intro a n' c e hn
  obtain ⟨A, c', e', _, _, _, ho⟩ := own_slice h
  rw [e] at e'
  cases e'
  obtain ⟨h1, h2, _⟩ := ho a rfl
  exact hs _ h1 h2
abbrev It := Ins × Value
abbrev itF (ts : List It) : List Value := (ts.map fun t => insC t.1 t.2).flatten
theorem itF_len (ts : List It) : (itF ts).length = ts.length * 5 := by
  induction ts with
  | nil => rfl
  | cons x l ih => simp only [itF, List.map_cons, List.flatten_cons, List.length_append, List.length_cons] at ih ⊢; rw [ih]; simp; omega
theorem itF_snoc (ts : List It) (t : It) : itF (ts ++ [t]) = itF ts ++ insC t.1 t.2 := by simp [itF]
theorem itF_row {w : World} {A : Option Addr} {ts : List It} (h : Row w A (itF ts)) {i : Nat} (hi : i < ts.length) : ∃ a, A = some a ∧ ∀ k u, (insC ts[i].1 ts[i].2)[k]? = some u → w.cell? ((a.add (i * 5)).add k) = some u := by
  have key : ∀ k u, (insC ts[i].1 ts[i].2)[k]? = some u → ∃ a, A = some a ∧ w.cell? (a.add (i * 5 + k)) = some u := fun k u hu =>
    h (i * 5 + k) u (flat_join (sz := 5) (ts.map fun t => insC t.1 t.2) i k (insC ts[i].1 ts[i].2) u (fun cs hcs => by
      obtain ⟨o, _, rfl⟩ := List.mem_map.1 hcs
      rfl) (by simp [hi]) hu)
  obtain ⟨a, ha, _⟩ := key 0 _ rfl
  refine ⟨a, ha, fun k u hu => ?_⟩
  obtain ⟨a', ha', hc⟩ := key k u hu
  rw [ha] at ha'
  cases ha'
  rw [add_add_]
  exact hc
theorem csF_row {w : World} {A : Option Addr} {cs : List Cs} (h : Row w A (csF cs)) {i : Nat} (hi : i < cs.length) : ∃ a, A = some a ∧ ∀ k u, (csC cs[i])[k]? = some u → w.cell? ((a.add (i * 2)).add k) = some u := by
  have key : ∀ k u, (csC cs[i])[k]? = some u → ∃ a, A = some a ∧ w.cell? (a.add (i * 2 + k)) = some u := fun k u hu =>
    h (i * 2 + k) u (flat_join (sz := 2) (cs.map csC) i k (csC cs[i]) u (fun cs hcs => by
      obtain ⟨o, _, rfl⟩ := List.mem_map.1 hcs
      rfl) (by simp [hi]) hu)
  obtain ⟨a, ha, _⟩ := key 0 _ rfl
  refine ⟨a, ha, fun k u hu => ?_⟩
  obtain ⟨a', ha', hc⟩ := key k u hu
  rw [ha] at ha'
  cases ha'
  rw [add_add_]
  exact hc
/-- Instructions, and their cases. -/
structure Ct (w : World) (A : Option Addr) (ts : List It) : Prop where
  row : Row w A (itF ts)
  cs : ∀ t ∈ ts, CsV w t.2 t.1.cs
theorem Ct.new {w w' : World} {A : Option Addr} {ts : List It} (h : Ct w A ts) (m : New w w') : Ct w' A ts := ⟨h.row.new m, fun t ht => (h.cs t ht).new m⟩
theorem Ct.modN {S : Nat → Prop} {w w' : World} {A : Option Addr} {ts : List It} (h : Ct w A ts) (m : Mod S w w') (ha : ∀ a, A = some a → ts ≠ [] → ¬ S a.block) (hs : ∀ t ∈ ts, Off S t.2) : Ct w' A ts := by
  refine ⟨?_, fun t ht => (h.cs t ht).modN m (hs t ht)⟩
  by_cases he : ts = []
  · subst he
    exact Row.nil _ _
  · exact h.row.mod m (fun a e => ha a e he)
theorem ivs_snoc (l : List Int) (z : Int) : ivs (l ++ [z]) = ivs l ++ [.int .i64 z] := by simp [ivs]

theorem Targets_ok (x : Ins) (v : Value) (w : World) (hv : CsV w v x.cs) :
    Calls Try.prog 32 #[.agg (insC x v).toArray] w fun e w' => ∃ A c, e = .returned (.slice A (targets x).length c) ∧ Row w' A (ivs (targets x)) ∧ (targets x).length ≤ 8796093022210 ∧ New w w' := by
  refine enter ok Try.func32 rfl rfl rfl ?_
  have n0 := New.alloc w (.cells (insC x v).toArray 62)
  have hI0 := heap_alloc_new w (.cells (insC x v).toArray 62)
  have sz0 : (w.alloc (.cells (insC x v).toArray 62)).heap.size = w.heap.size + 1 := by simp
  have hlen := hv.len
  refine seq_cut (σ := Unit) (fun _ => [(1, .pointer (some ⟨w.heap.size, 0, none⟩))]) (fun _ w' => New w w' ∧ w'.heap[w.heap.size]? = some (.cells (insC x v).toArray 62 (0, 0)) ∧ w'.heap.size = w.heap.size + 1) ?_ ?_
  rotate_left
  · intro K hK
    exact hK () _ _ ⟨rfl, trivial⟩ ⟨n0, hI0, sz0⟩
  rintro _ w1 fr1 ⟨n1, hI1, s1⟩
  clear n0 hI0 sz0
  refine seq_assign ?_
  refine seq_cut (σ := Unit) (fun _ => [(1, .pointer (some ⟨w.heap.size, 0, none⟩)), (3, .slice none 0 0), (4, .int .i64 (form x.op : Int))]) (fun _ w' => New w w' ∧ w'.heap[w.heap.size]? = some (.cells (insC x v).toArray 62 (0, 0)) ∧ w.heap.size + 1 ≤ w'.heap.size) ?_ ?_
  rotate_left
  · intro K hK
    refine Exists.intro x.op (And.intro (cellB hI1 rfl) ?_)
    refine call_ (formOf_ok x.op w1) ?_
    rintro e w2 ⟨rfl, n2⟩
    refine ⟨_, rfl, ?_⟩
    have := n2.size
    exact hK () _ _ ⟨rfl, rfl, rfl, trivial⟩ ⟨n1.trans n2, n2.blk hI1, by omega⟩
  rintro _ w2 fr2 ⟨n2, hI2, s2⟩
  have e0 : targets x = (if 7 ≤ form x.op then [x.a] else []) ++ if 8 ≤ form x.op then x.cs.map (·.to) else [] := rfl
  refine seq_cut (σ := Option Addr × Nat) (fun t => [(1, .pointer (some ⟨w.heap.size, 0, none⟩)), (3, .slice t.1 (if 7 ≤ form x.op then [x.a] else []).length t.2), (4, .int .i64 (form x.op : Int))]) (fun t w' => New w w' ∧ w'.heap[w.heap.size]? = some (.cells (insC x v).toArray 62 (0, 0)) ∧ w.heap.size + 1 ≤ w'.heap.size ∧
    w'.ownsRow (w.heap.size + 1) 3 1 (.slice t.1 (if 7 ≤ form x.op then [x.a] else []).length t.2) (if 7 ≤ form x.op then [x.a] else []).length (ivs (if 7 ≤ form x.op then [x.a] else []))) ?_ ?_
  rotate_left
  · intro K hK
    refine if_p (fun h7 => ?_) (fun h7 => ?_)
    · replace h7 : (7 : Int) ≤ (form x.op : Int) := h7
      rw [if_pos (show 7 ≤ form x.op by omega)] at hK
      refine Exists.intro x.a (And.intro (cellB hI2 rfl) ?_)
      have own0 : w2.ownsRow (w.heap.size + 1) 3 1 (.slice none 0 0) 0 (ivs []) := ⟨rfl, .inl ⟨rfl, rfl⟩⟩
      have n3 := New.alloc w2 (.cells #[.int .i64 x.a] 3)
      refine append2_ ok rfl rfl rfl rfl (own_new n3 own0) rfl rfl (row_alloc w2 [.int .i64 x.a] _ _) rfl (fun u hu => by rw [List.mem_singleton.1 hu]; rfl) (by decide) rfl (by show (0 + 1) * 8 ≤ _; omega) (by omega) (Nat.le_trans s2 n3.size) ?_
      intro A4 c4 w4 own4 mod4 st4
      have k4 : New w2 w4 := Mod.trans n3 mod4 fun b hb e => by cases e
      have := k4.size
      exact hK (A4, c4) _ _ ⟨rfl, rfl, rfl, trivial⟩ ⟨n2.trans k4, k4.blk hI2, by omega, own4⟩
    · replace h7 : ¬ (7 : Int) ≤ (form x.op : Int) := h7
      rw [if_neg (show ¬ 7 ≤ form x.op by omega)] at hK
      exact hK (none, 0) _ _ ⟨rfl, rfl, rfl, trivial⟩ ⟨n2, hI2, s2, rfl, .inl ⟨rfl, rfl⟩⟩
  rintro ⟨A4, c4⟩ w4 fr4 ⟨n4, hI4, s4, own4⟩
  dsimp only at own4
  refine seq_cut (σ := Option Addr × Nat) (fun t => [(3, .slice t.1 (targets x).length t.2)]) (fun t w' => New w w' ∧ (targets x).length ≤ 8796093022210 ∧ w'.ownsRow (w.heap.size + 1) 3 1 (.slice t.1 (targets x).length t.2) (targets x).length (ivs (targets x))) ?_ ?_
  · rintro ⟨A5, c5⟩ w5 fr5 ⟨n5, hl5, own5⟩
    dsimp only at own5
    obtain ⟨A6, c6, e6, _, _, row6, _⟩ := own_slice own5
    cases e6
    exact ⟨A5, c5, rfl, row6, hl5, n5⟩
  intro K hK
  refine if_p (fun h8 => ?_) (fun h8 => ?_)
  · replace h8 : (7 : Int) < (form x.op : Int) := h8
    rw [if_pos (show 7 ≤ form x.op by omega)] at own4 e0
    rw [if_pos (show 8 ≤ form x.op by omega)] at e0
    obtain ⟨⟨AC, cC, ev, rowC⟩, _⟩ := hv
    refine Exists.intro AC (Exists.intro x.cs.length (Exists.intro cC (And.intro (cellB hI4 (by rw [ev]; rfl)) ?_)))
    refine den_loop (σ := (Option Addr × Nat) × Nat) (fun t => [(3, .slice t.1.1 (1 + t.2) t.1.2), (20, .slice AC x.cs.length cC), (21, .int .i64 (x.cs.length : Int)), (22, .int .i64 (t.2 : Int))])
      (fun m t wl => m + t.2 = x.cs.length ∧ New w wl ∧ w.heap.size + 1 ≤ wl.heap.size ∧ wl.ownsRow (w.heap.size + 1) 3 1 (.slice t.1.1 (1 + t.2) t.1.2) (1 + t.2) (ivs (x.a :: (x.cs.take t.2).map (·.to)))) x.cs.length ((A4, c4), 0)
      ⟨(show Value.slice A4 (if 7 ≤ form x.op then [x.a] else []).length c4 = .slice A4 (1 + 0) c4 by rw [if_pos (show 7 ≤ form x.op by omega)]; rfl), rfl, rfl, rfl, trivial⟩ ⟨rfl, n4, s4, by simpa using own4⟩ ?_
    rintro m ⟨⟨Al, cl⟩, i⟩ wl fr0 ⟨hfuel, kl, klsz, own⟩
    dsimp only at hfuel own
    have hownb := fun b (e : (Value.slice Al (1 + i) cl).ownBlock = some b) => own.lt b e
    refine if_p (fun hlt => ?_) (fun hge => ?_)
    · replace hlt : (i : Int) < (x.cs.length : Int) := hlt
      have hi : i < x.cs.length := by omega
      obtain ⟨m, rfl⟩ : ∃ m', m = m' + 1 := ⟨m - 1, by omega⟩
      obtain ⟨aC, rfl, hcell⟩ := csF_row (rowC.new kl) hi
      refine And.intro (by omega) (And.intro hlt ?_)
      refine loadN_row (vs := csC x.cs[i]) (fun k u hu => by rw [Int.toNat_natCast]; exact hcell k u hu) rfl ?_
      refine And.intro rfl ?_
      refine storeNew (vs := csC x.cs[i]) (arr := #[.int .i64 0, .int .i64 0]) rfl (csC_one _) ?_
      intro w7 hb7 n7 s7
      refine Exists.intro x.cs[i].to (And.intro (cellB hb7 rfl) ?_)
      have n8 := n7.trans (New.alloc w7 (.cells #[.int .i64 x.cs[i].to] 3))
      refine append2_ ok rfl rfl rfl rfl (own_new n8 own) rfl rfl (row_alloc w7 [.int .i64 x.cs[i].to] _ _) rfl (fun u hu => by rw [List.mem_singleton.1 hu]; rfl) (by decide) rfl (by show (1 + i + 1) * 8 ≤ _; omega) (by omega) (Nat.le_trans (by omega) n8.size) ?_
      intro A9 c9 w9 own9 mod9 st9
      have k9 : New w w9 := Mod.trans kl (Mod.trans (S := fun b => some b = (Value.slice Al (1 + i) cl).ownBlock) n8.mod mod9 fun _ _ e => e) fun b hb e => by
        have := (hownb b e.symm).1
        omega
      have k79 := Mod.trans (S := fun b => some b = (Value.slice Al (1 + i) cl).ownBlock) n8.mod mod9 fun _ _ e => e
      have := k79.size
      have inc : Value.int .i64 (IntKind.i64.wrap ((i : Int) + 1)) = .int .i64 ((i + 1 : Nat) : Int) := by
        rw [wrap_i64 (by omega) (by omega)]
        rfl
      refine ⟨m, ((A9, c9), i + 1), by omega, ⟨rfl, rfl, rfl, inc, trivial⟩, by dsimp only; omega, k9, by omega, ?_⟩
      dsimp only
      have et : ivs (x.a :: (x.cs.take (i + 1)).map (·.to)) = ivs (x.a :: (x.cs.take i).map (·.to)) ++ [.int .i64 x.cs[i].to] := by
        rw [List.take_succ_eq_append_getElem hi, List.map_append, ← List.cons_append, ← ivs_snoc]
        rfl
      rw [et]
      exact own9
    · replace hge : ¬ (i : Int) < (x.cs.length : Int) := hge
      obtain rfl : i = x.cs.length := by omega
      have et : targets x = x.a :: (x.cs.take x.cs.length).map (·.to) := by rw [e0, List.take_length]; rfl
      have el : (targets x).length = 1 + x.cs.length := by rw [et, List.take_length]; simp; omega
      refine hK (Al, cl) _ _ ⟨by rw [el]; rfl, trivial⟩ ⟨kl, by omega, ?_⟩
      rw [el, et]
      exact own
  · replace h8 : ¬ (7 : Int) < (form x.op : Int) := h8
    rw [if_neg (show ¬ 8 ≤ form x.op by omega), List.append_nil] at e0
    rw [e0] at hK
    refine hK (A4, c4) _ _ ⟨rfl, trivial⟩ ⟨n4, ?_, own4⟩
    split <;> simp
end Go.Proofs.Ytcpeekeiflglpaa.Code
