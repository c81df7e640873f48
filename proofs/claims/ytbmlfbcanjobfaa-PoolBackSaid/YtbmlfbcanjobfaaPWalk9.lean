/- The package pool, walked: a constant put by the maker. -/
import Derived.Test.YtbmlfbcanjobfaaPWalk8
namespace Go.Proofs.Ytbmlfbcanjobfaa.Pool
open Go Go.Proofs.Ytbmlfbcanjobfaa Go.Proofs.Ytbmlfbcanjobfaa.Eng Go.Proofs
set_option maxRecDepth 10000

theorem conEq (x y : Con) : decide (x = y) = (decide (x.tag = y.tag) && (decide (x.n = y.n) && (decide ((⟨x.cl.toArray⟩ : ByteArray) = ⟨y.cl.toArray⟩) && (decide ((⟨x.nm.toArray⟩ : ByteArray) = ⟨y.nm.toArray⟩) && (decide ((⟨x.ty.toArray⟩ : ByteArray) = ⟨y.ty.toArray⟩) && true))))) := by
  rw [Base.same_iff, Base.same_iff, Base.same_iff]
  by_cases h : x = y
  · subst h; simp
  · rw [decide_eq_false h]
    symm
    have h' : ¬ (x.tag = y.tag ∧ x.n = y.n ∧ x.cl = y.cl ∧ x.nm = y.nm ∧ x.ty = y.ty) := fun e => h ((Con.iff x y).1 e)
    simpa using h'
theorem con_eql {o : Oper} {x y : Operand} {u : TypeId} {fr : Fr} {p q : Con} {w : World} {K : Fr → World → Prop} (ho : o.op = .binOp .eql 24 x y u) (hx : ev fr x = conV p) (hy : ev fr y = conV q) (k : K (putF fr o.dst (.bool (decide (p = q)))) w) : raw Try.prog o fr w K :=
  raw_value (agg_cmp ok ho rfl rfl (by kernel_rfl) (by kernel_rfl) hx hy rfl (decide (p = q)) (.inl ⟨rfl, conEq p q⟩) w) k
theorem con_neq {o : Oper} {x y : Operand} {u : TypeId} {fr : Fr} {p q : Con} {w : World} {K : Fr → World → Prop} (ho : o.op = .binOp .neq 24 x y u) (hx : ev fr x = conV p) (hy : ev fr y = conV q) (k : K (putF fr o.dst (.bool (!decide (p = q)))) w) : raw Try.prog o fr w K :=
  raw_value (agg_cmp ok ho rfl rfl (by kernel_rfl) (by kernel_rfl) hx hy rfl (!decide (p = q)) (.inr ⟨rfl, congrArg (!·) (conEq p q)⟩) w) k
def PutQ (w : World) (base g r : Nat) (v : Value) (l : List Ent) (c : Con) (e : Ending) (w' : World) : Prop :=
  ∃ v' f' l' k, e = .returned (.int .i64 ((k : Nat) : Int)) ∧ Mk w' base g r v' l' f' ∧ Mod (MS g r v) w w' ∧ stayed w v v' ∧ (putC l c = none ∧ k = 0 ∨ putC l c = some (l', k))
theorem mput_ok (base g r : Nat) (v : Value) (l : List Ent) (f : Value → Option Value) (c : Con) (w : World) (h : Mk w base g r v l f) (hc : ConOk c) (hm : l.length ≤ 2000) (hb : base ≤ w.heap.size) :
    Calls Try.prog 36 #[.pointer (some ⟨g, 0, none⟩), conV c] w (PutQ w base g r v l c) := by
  refine enter ok Try.func36 rfl rfl rfl ?_
  have hb3 := heap_alloc_new w (.cells (conCs c).toArray 24)
  have n1 := New.alloc w (.cells (conCs c).toArray 24)
  have no : ∀ w', New w w' → putC l c = none → PutQ w base g r v l c (.returned (.int .i64 0)) w' := fun w' k hn => ⟨v, f, l, 0, rfl, h.new k, k.mod, fun _ h => .inl h, .inl ⟨hn, rfl⟩⟩
  have yes : ∀ w' v' f' (q : List Ent × Nat) e, Mk w' base g r v' q.1 f' → Mod (MS g r v) w w' → stayed w v v' → putC l c = some q → e = .returned (.int .i64 (q.2 : Int)) → PutQ w base g r v l c e w' := fun w' v' f' q e h1 h2 h3 h4 h5 => ⟨v', f', q.1, q.2, h5, h1, h2, h3, .inr h4⟩
  refine Exists.intro c.tag (And.intro (cellB hb3 rfl) ?_)
  refine nil_ (thenF_ (block_ ?_))
  refine seq_cut (σ := Unit) (fun _ => [(0, .pointer (some ⟨g, 0, none⟩)), (3, .pointer (some ⟨w.heap.size, 0, none⟩)), (9, .int .i64 c.tag), (10, .bool (decide (c.tag = 3 ∨ c.tag = 5)))]) (fun _ w' => w' = w.alloc (.cells (conCs c).toArray 24)) ?_ ?_
  rotate_left
  · intro K hK
    refine if_p (fun h3 => ?_) (fun h3 => ?_)
    · exact hK () _ _ ⟨rfl, rfl, rfl, (show Value.bool (decide (c.tag = 3)) = .bool (decide (c.tag = 3 ∨ c.tag = 5)) by rw [decide_eq_true (show c.tag = 3 from h3), decide_eq_true (show c.tag = 3 ∨ c.tag = 5 from .inl h3)]), trivial⟩ rfl
    · refine hK () _ _ ⟨rfl, rfl, rfl, (show Value.bool (decide (c.tag = 5)) = .bool (decide (c.tag = 3 ∨ c.tag = 5)) from ?_), trivial⟩ rfl
      replace h3 : ¬ c.tag = 3 := h3
      congr 1
      by_cases h5 : c.tag = 5
      · rw [decide_eq_true h5, decide_eq_true (show c.tag = 3 ∨ c.tag = 5 from .inr h5)]
      · rw [decide_eq_false h5, decide_eq_false (show ¬ (c.tag = 3 ∨ c.tag = 5) from fun h => h.elim h3 h5)]
  rintro _ w1 fr1 hw1
  rw [← hw1] at hb3 n1
  clear hw1
  have h1 := h.new n1
  have hs1 := n1.size
  refine if_p (fun h35 => ?_) (fun h35 => ?_)
  · replace h35 : c.tag = 3 ∨ c.tag = 5 := h35
    refine loadN_row (vs := conCs c) (rowB hb3) rfl ?_
    refine Exists.intro c.tag (And.intro (cellB hb3 rfl) ?_)
    refine Exists.intro c.n (And.intro (cellB hb3 rfl) ?_)
    refine con_eql (p := c) (q := ⟨c.tag, c.n, [], [], []⟩) rfl rfl rfl ?_
    refine if_p (fun he => ?_) (fun hne => ?_)
    rotate_left
    · exact no w1 n1 (by unfold putC; rw [if_pos h35, if_neg (fun h => hne h.1)])
    refine Exists.intro c.tag (And.intro (cellB hb3 rfl) ?_)
    have go : c.tag = 5 ∨ small c.n = true → putC l c = some (add l ⟨c.tag, [], c.n, 0, 0⟩) := fun hs => by unfold putC; rw [if_pos h35, if_pos ⟨he, hs⟩]
    refine if_p (fun h5 => ?_) (fun h5 => ?_)
    · refine Exists.intro c.tag (And.intro (cellB hb3 rfl) ?_)
      refine Exists.intro c.n (And.intro (cellB hb3 rfl) ?_)
      refine call_ (add_ok base g r v l f ⟨c.tag, [], c.n, 0, 0⟩ w1 h1 (ok_num hc.tag hc.n) (by show c.tag ≠ 0; omega) (by omega) (by omega)) ?_
      rintro e w2 ⟨rfl, v2, f2, h2, m2, s2⟩
      exact ⟨_, rfl, yes w2 v2 f2 _ _ h2 (Mod.trans n1.mod m2 fun _ _ h => h) (fun b hb => (s2 b hb).imp id fun h => by omega) (go (.inl h5)) rfl⟩
    · refine Exists.intro c.n (And.intro (cellB hb3 rfl) ?_)
      refine call_ (small_ok c.n w1 hc.n) ?_
      rintro e w' ⟨rfl, rfl⟩
      refine ⟨_, rfl, ?_⟩
      cases hs : small c.n with
      | false => exact no w' n1 (by unfold putC; rw [if_pos h35, if_neg (fun h => h.2.elim h5 (fun h => by rw [hs] at h; cases h))])
      | true =>
        refine Exists.intro c.tag (And.intro (cellB hb3 rfl) ?_)
        refine Exists.intro c.n (And.intro (cellB hb3 rfl) ?_)
        refine call_ (add_ok base g r v l f ⟨c.tag, [], c.n, 0, 0⟩ w' h1 (ok_num hc.tag hc.n) (by show c.tag ≠ 0; omega) (by omega) (by omega)) ?_
        rintro e w2 ⟨rfl, v2, f2, h2, m2, s2⟩
        exact ⟨_, rfl, yes w2 v2 f2 _ _ h2 (Mod.trans n1.mod m2 fun _ _ h => h) (fun b hb => (s2 b hb).imp id fun h => by omega) (go (.inr hs)) rfl⟩
  refine if_p (fun h7 => ?_) (fun h7 => ?_)
  · replace h7 : c.tag = 7 := h7
    refine loadN_row (vs := conCs c) (rowB hb3) rfl ?_
    refine Exists.intro c.tag (And.intro (cellB hb3 rfl) ?_)
    refine Exists.intro (⟨c.cl.toArray⟩ : ByteArray) (And.intro (cellB hb3 rfl) ?_)
    refine con_eql (p := c) (q := ⟨c.tag, 0, c.cl, [], []⟩) rfl rfl rfl ?_
    refine if_p (fun he => ?_) (fun hne => ?_)
    rotate_left
    · exact no w1 n1 (by unfold putC; rw [if_neg h35, if_pos h7, if_neg (fun h => hne h.1)])
    refine Exists.intro (⟨c.cl.toArray⟩ : ByteArray) (And.intro (cellB hb3 rfl) ?_)
    refine call_ (right_ok c.cl w1 hc.cl) ?_
    rintro e w2 ⟨rfl, n2⟩
    refine ⟨_, rfl, ?_⟩
    have k2 := n1.trans n2
    have hs2 := n2.size
    cases hr : rightT c.cl with
    | false => exact no w2 k2 (by unfold putC; rw [if_neg h35, if_pos h7, if_neg (fun h => by rw [hr] at h; cases h.2)])
    | true =>
      refine Exists.intro (⟨c.cl.toArray⟩ : ByteArray) (And.intro (cellB (n2.blk hb3) rfl) ?_)
      refine call_ (mclass_ok base g r v l f c.cl w2 (h1.new n2) hc.cl (by omega) (by omega)) ?_
      rintro e w3 ⟨rfl, v3, f3, h3, m3, s3⟩
      exact ⟨_, rfl, yes w3 v3 f3 _ _ h3 (Mod.trans k2.mod m3 fun _ _ h => h) (fun b hb => (s3 b hb).imp id fun h => by omega) (by unfold putC; rw [if_neg h35, if_pos h7, if_pos ⟨he, hr⟩]) rfl⟩
  replace h35 : ¬ (c.tag = 3 ∨ c.tag = 5) := h35
  replace h7 : ¬ c.tag = 7 := h7
  refine seq_cut (σ := Unit) (fun _ => [(0, .pointer (some ⟨g, 0, none⟩)), (3, .pointer (some ⟨w.heap.size, 0, none⟩)), (9, .int .i64 c.tag), (55, .bool (decide (c.tag = 9 ∨ c.tag = 10)))]) (fun _ w' => w' = w1) ?_ ?_
  rotate_left
  · intro K hK
    refine if_p (fun h9 => ?_) (fun h9 => ?_)
    · exact hK () _ _ ⟨rfl, rfl, rfl, (show Value.bool (decide (c.tag = 9)) = .bool (decide (c.tag = 9 ∨ c.tag = 10)) by rw [decide_eq_true (show c.tag = 9 from h9), decide_eq_true (show c.tag = 9 ∨ c.tag = 10 from .inl h9)]), trivial⟩ rfl
    · refine hK () _ _ ⟨rfl, rfl, rfl, (show Value.bool (decide (c.tag = 10)) = .bool (decide (c.tag = 9 ∨ c.tag = 10)) from ?_), trivial⟩ rfl
      replace h9 : ¬ c.tag = 9 := h9
      congr 1
      by_cases h10 : c.tag = 10
      · rw [decide_eq_true h10, decide_eq_true (show c.tag = 9 ∨ c.tag = 10 from .inr h10)]
      · rw [decide_eq_false h10, decide_eq_false (show ¬ (c.tag = 9 ∨ c.tag = 10) from fun h => h.elim h9 h10)]
  rintro _ w' fr2 rfl
  refine if_p (fun hmem => ?_) (fun hno => ?_)
  rotate_left
  · exact no w' n1 (by unfold putC; rw [if_neg h35, if_neg h7, if_neg hno])
  replace hmem : c.tag = 9 ∨ c.tag = 10 := hmem
  have not : ¬ (c.n = 0 ∧ rightT c.cl = true ∧ rightT c.nm = true ∧ rightT c.ty = true) → putC l c = none := fun hn => by unfold putC; rw [if_neg h35, if_neg h7, if_pos hmem, if_neg hn]
  refine Exists.intro c.n (And.intro (cellB hb3 rfl) ?_)
  refine if_p (fun hn0 => ?_) (fun hn0 => ?_)
  rotate_left
  · exact no w' n1 (not fun h => hn0 h.1)
  refine Exists.intro (⟨c.cl.toArray⟩ : ByteArray) (And.intro (cellB hb3 rfl) ?_)
  refine call_ (right_ok c.cl w' hc.cl) ?_
  rintro e w2 ⟨rfl, n2⟩
  refine ⟨_, rfl, ?_⟩
  have k2 := n1.trans n2
  cases hr1 : rightT c.cl with
  | false => exact no w2 k2 (not fun h => by rw [hr1] at h; cases h.2.1)
  | true =>
  refine Exists.intro (⟨c.nm.toArray⟩ : ByteArray) (And.intro (cellB (n2.blk hb3) rfl) ?_)
  refine call_ (right_ok c.nm w2 hc.nm) ?_
  rintro e w3 ⟨rfl, n3⟩
  refine ⟨_, rfl, ?_⟩
  have k3 := k2.trans n3
  cases hr2 : rightT c.nm with
  | false => exact no w3 k3 (not fun h => by rw [hr2] at h; cases h.2.2.1)
  | true =>
  refine Exists.intro (⟨c.ty.toArray⟩ : ByteArray) (And.intro (cellB ((n2.trans n3).blk hb3) rfl) ?_)
  refine call_ (right_ok c.ty w3 hc.ty) ?_
  rintro e w4 ⟨rfl, n4⟩
  refine ⟨_, rfl, ?_⟩
  have k4 := k3.trans n4
  cases hr3 : rightT c.ty with
  | false => exact no w4 k4 (not fun h => by rw [hr3] at h; cases h.2.2.2)
  | true =>
  have hb34 := ((n2.trans n3).trans n4).blk hb3
  have hs4 := k4.size
  refine Exists.intro (⟨c.cl.toArray⟩ : ByteArray) (And.intro (cellB hb34 rfl) ?_)
  refine call_ (mclass_ok base g r v l f c.cl w4 (((h1.new n2).new n3).new n4) hc.cl (by omega) (by omega)) ?_
  rintro e w5 ⟨rfl, v5, f5, h5, m5, s5⟩
  refine ⟨_, rfl, ?_⟩
  have hgl := h.lt
  have hrl := h.map.lt
  have hs14 := ((n2.trans n3).trans n4).size
  have hb3l := (Array.getElem?_eq_some_iff.1 hb3).1
  have hnot : ¬ MS g r v w.heap.size := by
    rintro (e | e | e)
    · omega
    · omega
    · have := (h.own.lt _ e.symm).2
      omega
  obtain ⟨_, a1, a2⟩ := add_len l ⟨1, c.cl, 0, 0, 0⟩
  have a2 := a2 h.pos
  obtain ⟨a3, a4, a5⟩ := add_len (utf l c.cl).1 ⟨7, [], 0, (utf l c.cl).2, 0⟩
  have a5 := a5 (by show 1 ≤ (utf l c.cl).1.length; have := a2.2; change _ < (utf l c.cl).1.length at this; omega)
  change (utf l c.cl).1.length ≤ _ at a1
  change (cls l c.cl).1.length ≤ _ at a4
  change 1 ≤ (cls l c.cl).2 ∧ (cls l c.cl).2 < (cls l c.cl).1.length at a5
  have hput : putC l c = some (mem l c) := by unfold putC; rw [if_neg h35, if_neg h7, if_pos hmem, if_pos ⟨hn0, hr1, hr2, hr3⟩]
  have hQ : mem l c = add (add (utf (utf (cls l c.cl).1 c.nm).1 c.ty).1 ⟨12, [], 0, (utf (cls l c.cl).1 c.nm).2, (utf (utf (cls l c.cl).1 c.nm).1 c.ty).2⟩).1 ⟨c.tag, [], 0, (cls l c.cl).2, (add (utf (utf (cls l c.cl).1 c.nm).1 c.ty).1 ⟨12, [], 0, (utf (cls l c.cl).1 c.nm).2, (utf (utf (cls l c.cl).1 c.nm).1 c.ty).2⟩).2⟩ := rfl
  rw [hQ] at hput
  clear hQ
  generalize cls l c.cl = q1 at *
  have kd := New.drew w5
  refine draw_ (w := w5) ok (.q 0 (.q 1 (.q 2 (.q 4 (.q 5 (.q 6 (.e 3 (.e 7 (.q 8 (.q 9 .done)))))))))) [9] (fun w'' => w''.heap[w.heap.size]? = some (.cells (conCs c).toArray 24 (0, 0))) (by kernel_rfl) (by kernel_rfl) (by kernel_rfl) (by kernel_rfl) (by kernel_rfl) (kd.blk (m5.blk hb34 hnot)) ?_
  refine Exists.intro (⟨c.nm.toArray⟩ : ByteArray) (And.intro (fun w'' hw => cellB hw rfl) ?_)
  refine Exists.intro (⟨c.ty.toArray⟩ : ByteArray) (And.intro (fun w'' hw => cellB hw rfl) ?_)
  have hs45 := m5.size
  have md : Mod (MS g r v) w4 w5.drew := m5.new kd
  obtain ⟨b1, b2, b3⟩ := add_len q1.1 ⟨1, c.nm, 0, 0, 0⟩
  have b3 := b3 (by omega)
  change (utf q1.1 c.nm).1.length ≤ _ at b2
  change 1 ≤ (utf q1.1 c.nm).2 ∧ (utf q1.1 c.nm).2 < (utf q1.1 c.nm).1.length at b3
  have hsd := kd.size
  refine call_ (mtext_ok base g r v5 q1.1 f5 c.nm w5.drew (h5.new kd) hc.nm (by omega) (by omega)) ?_
  rintro e w6 ⟨rfl, v6, f6, h6, m6, s6⟩
  refine ⟨_, rfl, ?_⟩
  obtain ⟨m06, s06⟩ := Mk.then md s5 m6 (fun b hb => s6 b hb)
  generalize utf q1.1 c.nm = q2 at *
  refine Exists.intro _ (And.intro (fun _ h => h) (And.intro (m06.blk hb34 hnot) ?_))
  have hs6 := m06.size
  obtain ⟨c1, c2, c3⟩ := add_len q2.1 ⟨1, c.ty, 0, 0, 0⟩
  have c3 := c3 (by omega)
  change (utf q2.1 c.ty).1.length ≤ _ at c2
  change 1 ≤ (utf q2.1 c.ty).2 ∧ (utf q2.1 c.ty).2 < (utf q2.1 c.ty).1.length at c3
  refine call_ (mtext_ok base g r v6 q2.1 f6 c.ty w6 h6 hc.ty (by omega) (by omega)) ?_
  rintro e w7 ⟨rfl, v7, f7, h7', m7, s7⟩
  refine ⟨_, rfl, ?_⟩
  obtain ⟨m07, s07⟩ := Mk.then m06 s06 m7 s7
  generalize utf q2.1 c.ty = q3 at *
  refine Exists.intro _ (And.intro (fun _ h => h) (And.intro (m07.blk hb34 hnot) ?_))
  have hs7 := m07.size
  have kd7 := New.drew w7
  refine draw_ (w := w7) ok (.q 0 (.q 1 (.q 2 (.q 3 (.q 4 (.q 5 (.q 6 (.q 7 (.e 8 (.q 9 (.e 10 (.q 11 .done)))))))))))) [11] (fun w'' => w''.heap[w.heap.size]? = some (.cells (conCs c).toArray 24 (0, 0))) (by kernel_rfl) (by kernel_rfl) (by kernel_rfl) (by kernel_rfl) (by kernel_rfl) (kd7.blk (m07.blk hb34 hnot)) ?_
  refine Exists.intro c.tag (And.intro (fun w'' hw => cellB hw rfl) ?_)
  obtain ⟨d1, d2, d3⟩ := add_len q3.1 ⟨12, [], 0, q2.2, q3.2⟩
  have d3 := d3 (by omega)
  have hsd7 := kd7.size
  refine call_ (add_ok base g r v7 q3.1 f7 ⟨12, [], 0, q2.2, q3.2⟩ w7.drew (h7'.new kd7) (ok_ref (by omega) (by omega) (by omega)) (show ¬ (12 : Int) = 0 by decide) (by omega) (by omega)) ?_
  rintro e w8 ⟨rfl, v8, f8, h8, m8, s8⟩
  refine ⟨_, rfl, ?_⟩
  obtain ⟨m08, s08⟩ := Mk.then (m07.new kd7) s07 m8 s8
  generalize add q3.1 ⟨12, [], 0, q2.2, q3.2⟩ = q4 at *
  refine Exists.intro _ (And.intro (fun _ h => h) (And.intro (m08.blk hb34 hnot) ?_))
  have hs8 := m08.size
  refine call_ (add_ok base g r v8 q4.1 f8 ⟨c.tag, [], 0, q1.2, q4.2⟩ w8 h8 (ok_ref (by omega) (by omega) (by omega)) (by show c.tag ≠ 0; omega) (by omega) (by omega)) ?_
  rintro e w9 ⟨rfl, v9, f9, h9, m9, s9⟩
  refine ⟨_, rfl, ?_⟩
  obtain ⟨m09, s09⟩ := Mk.then m08 s08 m9 s9
  have hs9 := m09.size
  refine Exists.intro _ (And.intro (fun _ h => h) (And.intro (m09.blk hb34 hnot) ?_))
  exact yes w9 v9 f9 _ _ h9 (Mod.trans k4.mod m09 fun _ _ h => h) (fun b hb => (s09 b hb).imp id fun h => by omega) hput rfl
end Go.Proofs.Ytbmlfbcanjobfaa.Pool
