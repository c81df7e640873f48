/- The package pool, walked: what puts entries into a pool. -/
import Derived.Test.YtbmlfbcanjobfaaPMap
namespace Go.Proofs.Ytbmlfbcanjobfaa.Pool
open Go Go.Proofs.Ytbmlfbcanjobfaa Go.Proofs.Ytbmlfbcanjobfaa.Eng Go.Proofs
set_option maxRecDepth 10000

/-! ### What is found behind adding -/
theorem find_self {l : List Ent} {x : Ent} (h1 : 1 ≤ l.length) (h : find l x = none) : find (l ++ x :: tailOf x) x = some l.length := by
  unfold find at h ⊢
  refine first_of h1 (by rw [List.length_append, List.length_cons]; omega) (decide_eq_true at_new) fun j hj hk => ?_
  have := first_none h j hj (by omega)
  rw [at_app _ hk]
  exact this
theorem find_other {l : List Ent} {x y : Ent} (h1 : 1 ≤ l.length) (hy : y ≠ x) (ht : y.tag ≠ 0) : find (l ++ x :: tailOf x) y = find l y := by
  cases h : find l y with
  | some k =>
    obtain ⟨p1, p2, p3, p4⟩ := first_some h
    refine first_of p1 (by rw [List.length_append, List.length_cons]; omega) ?_ fun j hj hk => ?_
    · rw [at_app _ (by omega)]; exact p3
    · rw [at_app _ (by omega)]; exact p4 j hj hk
  | none =>
    refine first_none_of fun j hj hk => decide_eq_false ?_
    rcases Nat.lt_trichotomy j l.length with h' | h' | h'
    · rw [at_app _ h']
      exact of_decide_eq_false (first_none h j hj (by omega))
    · subst h'
      rw [at_new]
      exact fun e => hy e.symm
    · unfold tailOf at hk ⊢
      split at hk
      · rename_i h5
        rw [if_pos h5]
        simp at hk
        have : j = l.length + 1 := by omega
        subst this
        rw [at_lt (by simp), List.getElem_append_right (by omega)]
        simp only [Nat.add_sub_cancel_left, List.getElem_cons_succ, List.getElem_cons_zero]
        intro e
        rw [← e] at ht
        exact ht rfl
      · rename_i h5
        simp at hk
        omega
theorem zInt (w : World) : (zeroValue 3).run Try.prog w = .ok (.int .i64 0) w := by
  obtain ⟨j, z, h1, _, _, h2, h3⟩ := ok.info 3 _ rfl
  have hz : z = .int .i64 0 := by
    have e1 : (Try.prog.info? 3).bind (·.zero) = some (.int .i64 0) := by kernel_rfl
    rw [h1] at e1
    simp only [Option.bind_some] at e1
    rw [h2] at e1
    exact Option.some.inj e1
  subst hz
  simp [zeroValue, typeInfo, h1, h2]

/-! ### What makes a pool -/
structure Mk (w : World) (base g r : Nat) (v : Value) (l : List Ent) (f : Value → Option Value) : Prop where
  blk : w.heap[g]? = some (.cells #[v, .map (some r)] 72 (0, 0))
  own : w.ownsRow base 67 5 v l.length (l.map entC).flatten
  map : MapF entK w r f
  off : v.ownBlock ≠ some g
  oks : ∀ x ∈ l, EntOk x
  fa : ∀ x : Ent, EntOk x → x.tag ≠ 0 → f (entV x) = (find l x).map fun k => .int .i64 (k : Int)
  pos : 1 ≤ l.length
abbrev MS (g r : Nat) (v : Value) : Nat → Prop := fun b => b = g ∨ b = r ∨ some b = v.ownBlock
theorem Mk.lt {w : World} {base g r : Nat} {v : Value} {l : List Ent} {f : Value → Option Value} (h : Mk w base g r v l f) : g < w.heap.size := (Array.getElem?_eq_some_iff.1 h.blk).1
theorem Mk.rg {w : World} {base g r : Nat} {v : Value} {l : List Ent} {f : Value → Option Value} (h : Mk w base g r v l f) : r ≠ g := by
  rintro rfl
  obtain ⟨es, clock, h1, _⟩ := h.map
  rw [h.blk] at h1
  cases h1
theorem Mk.rv {w : World} {base g r : Nat} {v : Value} {l : List Ent} {f : Value → Option Value} (h : Mk w base g r v l f) : v.ownBlock ≠ some r := by
  intro e
  obtain ⟨es, clock, h1, _⟩ := h.map
  rcases h.own.2 with ⟨rfl, _⟩ | ⟨q, cap, cur, rfl, _, hq, _⟩
  · cases e
  · cases e
    rw [hq] at h1
    cases h1
theorem Mk.new {w w' : World} {base g r : Nat} {v : Value} {l : List Ent} {f : Value → Option Value} (h : Mk w base g r v l f) (k : New w w') : Mk w' base g r v l f :=
  ⟨k.blk h.blk, own_new k h.own, h.map.new k, h.off, h.oks, h.fa, h.pos⟩
theorem ents_flen (l : List Ent) : (l.map entC).flatten.length = l.length * 5 := by
  induction l with
  | nil => rfl
  | cons r l ih => rw [List.map_cons, List.flatten_cons, List.length_append, ih, List.length_cons]; show 5 + _ = _; omega
theorem ents_snoc (l : List Ent) (x : Ent) : ((l ++ [x]).map entC).flatten = (l.map entC).flatten ++ entC x := by simp
theorem ok_e0 : EntOk e0 := ⟨by unfold I64; decide, by decide, by unfold I64; decide, by unfold I64; decide, by unfold I64; decide⟩
open Classical in
noncomputable def upf (f : Value → Option Value) (k v : Value) : Value → Option Value := fun y => if y = k then some v else f y
theorem upf_same (f : Value → Option Value) (k v : Value) : upf f k v k = some v := by unfold upf; rw [if_pos rfl]
theorem upf_other (f : Value → Option Value) (k v : Value) (y : Value) (h : y ≠ k) : upf f k v y = f y := by unfold upf; rw [if_neg h]
theorem add_ok (base g r : Nat) (v : Value) (l : List Ent) (f : Value → Option Value) (x : Ent) (w : World) (h : Mk w base g r v l f) (hx : EntOk x) (ht : x.tag ≠ 0) (hm : l.length ≤ 3000) (hb : base ≤ w.heap.size) :
    Calls Try.prog 58 #[.pointer (some ⟨g, 0, none⟩), entV x] w fun e w' => e = .returned (.int .i64 ((add l x).2 : Int)) ∧ ∃ v' f', Mk w' base g r v' (add l x).1 f' ∧ Mod (MS g r v) w w' ∧ stayed w v v' := by
  refine enter ok Try.func58 rfl rfl rfl ?_
  have hb3 := heap_alloc_new w (.cells (entC x).toArray 67)
  have n1 := New.alloc w (.cells (entC x).toArray 67)
  have hgl := h.lt
  have hrl := h.map.lt
  have hrg := h.rg
  have hrv := h.rv
  refine draw_ (w := w.alloc (.cells (entC x).toArray 67)) ok (.q 0 (.q 1 (.q 2 (.q 3 (.q 4 (.q 5 (.q 6 (.q 7 (.q 8 (.q 9 (.q 10 .done))))))))))) [10] (New (w.alloc (.cells (entC x).toArray 67))) (by kernel_rfl) (by kernel_rfl) (by kernel_rfl) (by kernel_rfl) (by kernel_rfl) (New.drew _) ?_
  refine Exists.intro (some r) (And.intro (fun w'' hw => cellB ((n1.trans hw).blk h.blk) rfl) ?_)
  refine loadNC_row (vs := entC x) (fun k u hu w'' hw => rowB (hw.blk hb3) k u hu) rfl ?_
  refine Exists.intro (.tuple #[(f (entV x)).getD (.int .i64 0), .bool (f (entV x)).isSome]) (And.intro (fun w'' hw => exec_lookup rfl rfl rfl (run_lookup_ok (h.map.new (n1.trans hw)) entLaw uMap (zInt w'') (entKey hx))) ?_)
  rw [h.fa x hx ht]
  have k1 := n1.trans (New.drew (w.alloc (.cells (entC x).toArray 67)))
  cases hfind : find l x with
  | some k =>
    have e : add l x = (l, k) := by unfold add; rw [hfind]
    rw [e]
    exact ⟨rfl, v, f, h.new k1, k1.mod, fun _ h => .inl h⟩
  | none =>
  have e : add l x = (l ++ x :: tailOf x, l.length) := by unfold add; rw [hfind]
  rw [e]
  obtain ⟨A, c, rfl, hc, hcm, _, _⟩ := own_slice h.own
  have hb3d := (New.drew (w.alloc (.cells (entC x).toArray 67))).blk hb3
  refine Exists.intro A (Exists.intro l.length (Exists.intro c (And.intro (cellB (k1.blk h.blk) rfl) ?_)))
  refine draw_ (w := (w.alloc (.cells (entC x).toArray 67)).drew) ok (.q 0 (.q 1 (.q 2 (.q 3 (.q 4 (.q 5 (.e 6 .done))))))) [6] (New (w.alloc (.cells (entC x).toArray 67)).drew) (by kernel_rfl) (by kernel_rfl) (by kernel_rfl) (by kernel_rfl) (by kernel_rfl) (New.drew _) ?_
  refine Exists.intro (some r) (And.intro (fun w'' hw => cellB ((k1.trans hw).blk h.blk) rfl) ?_)
  refine loadNC_row (vs := entC x) (fun k u hu w'' hw => rowB (hw.blk hb3d) k u hu) rfl ?_
  have k2 := k1.trans (New.drew (w.alloc (.cells (entC x).toArray 67)).drew)
  obtain ⟨w5, hrun, m5, s5, hmap5⟩ := run_update (P := Try.prog) (t := 70) (h.map.new k2) entLaw uMap (v := .int .i64 (l.length : Int)) (entKey hx)
  refine ⟨op_mapUpdate rfl (update_ (key := entV x) (u := .int .i64 (l.length : Int)) rfl rfl rfl rfl hrun ?_)⟩
  have hb5 := m5.blk (k2.blk h.blk) (fun e => hrg e.symm)
  have hbx5 := m5.blk ((New.drew (w.alloc (.cells (entC x).toArray 67)).drew).blk hb3d) (by omega)
  have own5 := own_mod m5 (own_new k2 h.own) (fun k hk e => hrv (by rw [hk, e]))
  have hoff := h.off
  have hown := fun b (e : (Value.slice A l.length c).ownBlock = some b) => h.own.lt b e
  refine draw_ (w := w5) ok (.q 0 (.q 1 (.q 2 (.q 3 (.q 4 (.q 5 (.e 6 (.e 7 (.q 8 (.q 9 (.e 10 .done))))))))))) [10] (Mod (fun b => some b = (Value.slice A l.length c).ownBlock) w5) (by kernel_rfl) (by kernel_rfl) (by kernel_rfl) (by kernel_rfl) (by kernel_rfl) (New.drew w5).mod ?_
  refine Exists.intro A (Exists.intro l.length (Exists.intro c (And.intro (fun w'' hw => cellB (hw.blk hb5 (fun e => hoff e.symm)) rfl) ?_)))
  refine loadNC_row (vs := entC x) (fun k u hu w'' hw => rowB (hw.blk hbx5 (fun e => by have := (hown _ e.symm).2; omega)) k u hu) rfl ?_
  refine eff_build (xs := entC x) rfl rfl rfl rfl rfl rfl rfl rfl rfl ?_
  have n56 := (New.drew w5).trans (New.alloc w5.drew (.cells (entC x).toArray 67))
  have row6 : Row (w5.drew.alloc (.cells (entC x).toArray 67)) (some ⟨w5.drew.heap.size, 0, none⟩) (entC x) := row_alloc w5.drew (entC x) _ _
  have hs5 := k2.size
  have hs56 := n56.size
  refine Exists.intro _ (And.intro (fun _ h => h) (And.intro n56.mod ?_))
  refine eff_app rfl rfl (fun _ _ => rfl) ?_
  refine append2_ ok rfl rfl rfl rfl (own_new n56 own5) rfl rfl row6 rfl (entC_one x) (by decide) rfl (by show (l.length + 1) * 48 ≤ _; omega) (by omega) (by omega) ?_
  intro A7 c7 w7 own7 mod7 st7
  rw [← ents_snoc] at own7
  have m57 : Mod (fun b => some b = (Value.slice A l.length c).ownBlock) w5 w7 := Mod.trans n56.mod mod7 fun _ _ h => h
  refine Exists.intro _ (And.intro (fun _ h => h) (And.intro m57 ?_))
  have hb7 := m57.blk hb5 (fun e => hoff e.symm)
  have hbx7 := m57.blk hbx5 (fun e => by have := (hown _ e.symm).2; omega)
  have m07 : Mod (MS g r (.slice A l.length c)) w w7 := Mod.trans (Mod.trans k2.mod m5 (fun _ _ e => .inr (.inl e))) m57 (fun _ _ e => .inr (.inr e))
  have st07 : stayed w (.slice A l.length c) (.slice A7 (l.length + 1) c7) := fun b hb => by
    rcases st7 b hb with h1 | h1
    · exact .inl h1
    · exact .inr (by omega)
  have off7 : (Value.slice A7 (l.length + 1) c7).ownBlock ≠ some g := fun e => by
    rcases st07 g e with h1 | h1
    · exact hoff h1
    · omega
  have map7 : MapF entK w7 r (upf f (entV x) (.int .i64 (l.length : Int))) := (hmap5 _ (upf_same _ _ _) (fun y hy => upf_other _ _ _ y hy)).mod m57 (fun e => hrv e.symm)
  refine And.intro ⟨_, cellB hb7 rfl⟩ (And.intro (fzB hb7 _) (force_ ?_))
  refine stK hb7 (show (0 : Nat) < 2 by decide) ?_
  intro w8 hb8 m8 s8
  have hb8' : w8.heap[g]? = some (.cells #[.slice A7 (l.length + 1) c7, .map (some r)] 72 (0, 0)) := hb8
  have hbx8 := m8.keep hbx7 (by omega)
  have map8 := map7.mod m8 hrg
  have own8 := own_mod m8 own7 (fun k hk e => off7 (by rw [hk, e]))
  have m08 : Mod (MS g r (.slice A l.length c)) w w8 := Mod.trans m07 m8 (fun _ _ e => .inl e)
  have fa' : ∀ y : Ent, EntOk y → y.tag ≠ 0 → upf f (entV x) (.int .i64 (l.length : Int)) (entV y) = (find (l ++ x :: tailOf x) y).map fun k => .int .i64 (k : Int) := fun y hy hty => by
    by_cases hyx : y = x
    · subst hyx
      rw [upf_same, find_self h.pos hfind]
      rfl
    · rw [upf_other _ _ _ _ (fun e => hyx (entV_inj e)), find_other h.pos hyx hty]
      exact h.fa y hy hty
  have oks' : ∀ y ∈ l ++ x :: tailOf x, EntOk y := fun y hy => by
    rcases List.mem_append.1 hy with hy | hy
    · exact h.oks y hy
    rcases List.mem_cons.1 hy with rfl | hy
    · exact hx
    · unfold tailOf at hy
      split at hy
      · rw [List.mem_singleton.1 hy]; exact ok_e0
      · cases hy
  have pos' : 1 ≤ (l ++ x :: tailOf x).length := by rw [List.length_append, List.length_cons]; omega
  refine Exists.intro x.tag (And.intro (cellB hbx8 rfl) ?_)
  refine if_p (fun h5 => ?_) (fun h5 => ?_)
  rotate_left
  · have et : tailOf x = [] := by unfold tailOf; rw [if_neg h5]
    rw [et] at fa' oks' pos' ⊢
    refine ⟨rfl, _, _, ⟨hb8', ?_, map8, off7, oks', fa', pos'⟩, m08, st07⟩
    rw [List.length_append]
    exact own8
  have et : tailOf x = [e0] := by unfold tailOf; rw [if_pos h5]
  rw [et] at fa' oks' pos' ⊢
  refine Exists.intro A7 (Exists.intro (l.length + 1) (Exists.intro c7 (And.intro (cellB hb8' rfl) ?_)))
  have n9 := New.alloc w8 (.cells (entC e0).toArray 67)
  have row9 : Row (w8.alloc (.cells (entC e0).toArray 67)) (some ⟨w8.heap.size, 0, none⟩) (entC e0) := row_alloc w8 (entC e0) _ _
  have hs9 := n9.size
  have hs08 := m08.size
  refine append2_ ok rfl rfl rfl rfl (own_new n9 own8) rfl rfl row9 rfl (entC_one e0) (by decide) rfl (by show (l.length + 1 + 1) * 48 ≤ _; omega) (by omega) (Nat.le_trans hb (Nat.le_trans hs08 hs9)) ?_
  intro A10 c10 w10 own10 mod10 st10
  have e10 : ((l ++ [x]).map entC).flatten ++ entC e0 = ((l ++ [x, e0]).map entC).flatten := by rw [← ents_snoc, List.append_assoc]; rfl
  rw [e10] at own10
  have m810 : Mod (fun b => some b = (Value.slice A7 (l.length + 1) c7).ownBlock) w8 w10 := Mod.trans n9.mod mod10 fun _ _ h => h
  have hb10 := m810.blk hb8' (fun e => off7 e.symm)
  have map10 := map8.mod m810 (fun e => by
    rcases st07 r e.symm with h1 | h1
    · exact hrv h1
    · omega)
  have st010 : stayed w (.slice A l.length c) (.slice A10 (l.length + 1 + 1) c10) := fun b hb => by
    rcases st10 b hb with h1 | h1
    · exact st07 b h1
    · exact .inr (Nat.le_trans (Nat.le_trans hs08 hs9) h1)
  have off10 : (Value.slice A10 (l.length + 1 + 1) c10).ownBlock ≠ some g := fun e => by
    rcases st010 g e with h1 | h1
    · exact hoff h1
    · omega
  have m010 : Mod (MS g r (.slice A l.length c)) w w10 := Mod.trans m08 m810 (fun b hb e => by
    rcases st07 b e.symm with h1 | h1
    · exact .inr (.inr h1.symm)
    · omega)
  refine And.intro ⟨_, cellB hb10 rfl⟩ (And.intro (fzB hb10 _) (force_ ?_))
  refine stK hb10 (show (0 : Nat) < 2 by decide) ?_
  intro w11 hb11 m11 s11
  have hb11' : w11.heap[g]? = some (.cells #[.slice A10 (l.length + 1 + 1) c10, .map (some r)] 72 (0, 0)) := hb11
  refine ⟨rfl, _, _, ⟨hb11', ?_, map10.mod m11 hrg, off10, oks', fa', pos'⟩, Mod.trans m010 m11 (fun _ _ e => .inl e), st010⟩
  rw [List.length_append]
  exact own_mod m11 own10 (fun k hk e => off10 (by rw [hk, e]))
theorem i0 : I64 0 := ⟨by omega, by omega⟩
theorem ok_utf {s : List UInt8} (h : s.length ≤ 9223372036854775807) : EntOk ⟨1, s, 0, 0, 0⟩ := ⟨(show I64 1 from ⟨by omega, by omega⟩), h, i0, i0, i0⟩
theorem ok_ref {t : Int} (ht : 0 ≤ t ∧ t ≤ 100) {a b : Nat} (ha : a ≤ 10000) (hb : b ≤ 10000) : EntOk ⟨t, [], 0, a, b⟩ := ⟨(show I64 t from ⟨by omega, by omega⟩), by simp, i0, (show I64 (a : Int) from ⟨by omega, by omega⟩), (show I64 (b : Int) from ⟨by omega, by omega⟩)⟩
theorem ok_num {t n : Int} (ht : I64 t) (hn : I64 n) : EntOk ⟨t, [], n, 0, 0⟩ := ⟨ht, by simp, hn, i0, i0⟩
theorem mtext_ok (base g r : Nat) (v : Value) (l : List Ent) (f : Value → Option Value) (s : List UInt8) (w : World) (h : Mk w base g r v l f) (hs : s.length ≤ 9223372036854775807) (hm : l.length ≤ 3000) (hb : base ≤ w.heap.size) :
    Calls Try.prog 61 #[.pointer (some ⟨g, 0, none⟩), strV s] w fun e w' => e = .returned (.int .i64 ((utf l s).2 : Int)) ∧ ∃ v' f', Mk w' base g r v' (utf l s).1 f' ∧ Mod (MS g r v) w w' ∧ stayed w v v' := by
  refine enter ok Try.func61 rfl rfl rfl ?_
  refine call_ (add_ok base g r v l f ⟨1, s, 0, 0, 0⟩ w h (ok_utf hs) (show ¬ (1 : Int) = 0 by decide) hm hb) ?_
  rintro e w' ⟨rfl, h2⟩
  exact ⟨_, rfl, rfl, h2⟩
theorem Mk.then {w w1 w2 : World} {g r : Nat} {v v1 v2 : Value} (m1 : Mod (MS g r v) w w1) (s1 : stayed w v v1) (m2 : Mod (MS g r v1) w1 w2) (s2 : stayed w1 v1 v2) : Mod (MS g r v) w w2 ∧ stayed w v v2 := by
  have hsz := m1.size
  refine ⟨Mod.trans m1 m2 fun b hb e => ?_, fun b hb => ?_⟩
  · rcases e with e | e | e
    · exact .inl e
    · exact .inr (.inl e)
    · rcases s1 b e.symm with h | h
      · exact .inr (.inr h.symm)
      · omega
  · rcases s2 b hb with h | h
    · exact s1 b h
    · exact .inr (by omega)
theorem add_len (l : List Ent) (x : Ent) : l.length ≤ (add l x).1.length ∧ (add l x).1.length ≤ l.length + 2 ∧ (1 ≤ l.length → 1 ≤ (add l x).2 ∧ (add l x).2 < (add l x).1.length) := by
  unfold add
  cases h : find l x with
  | some k =>
    obtain ⟨h1, h2, _⟩ := find_some h
    exact ⟨Nat.le_refl _, by simp, fun _ => ⟨h1, h2⟩⟩
  | none =>
    have : (tailOf x).length ≤ 1 := by unfold tailOf; split <;> simp
    simp only [List.length_append, List.length_cons]
    exact ⟨by omega, by omega, fun h => ⟨h, by omega⟩⟩
theorem mclass_ok (base g r : Nat) (v : Value) (l : List Ent) (f : Value → Option Value) (s : List UInt8) (w : World) (h : Mk w base g r v l f) (hs : s.length ≤ 9223372036854775807) (hm : l.length ≤ 2900) (hb : base ≤ w.heap.size) :
    Calls Try.prog 60 #[.pointer (some ⟨g, 0, none⟩), strV s] w fun e w' => e = .returned (.int .i64 ((cls l s).2 : Int)) ∧ ∃ v' f', Mk w' base g r v' (cls l s).1 f' ∧ Mod (MS g r v) w w' ∧ stayed w v v' := by
  refine enter ok Try.func60 rfl rfl rfl ?_
  refine call_ (mtext_ok base g r v l f s w h hs (by omega) hb) ?_
  rintro e w1 ⟨rfl, v1, f1, h1, m1, s1⟩
  refine ⟨_, rfl, ?_⟩
  have hsz := m1.size
  obtain ⟨_, l2, l3⟩ := add_len l ⟨1, s, 0, 0, 0⟩
  have l3 := l3 h.pos
  change (utf l s).1.length ≤ _ at l2
  change 1 ≤ (utf l s).2 ∧ (utf l s).2 < (utf l s).1.length at l3
  refine call_ (add_ok base g r v1 (utf l s).1 f1 ⟨7, [], 0, (utf l s).2, 0⟩ w1 h1 (ok_ref (b := 0) (by omega) (by omega) (by omega)) (show ¬ (7 : Int) = 0 by decide) (by omega) (by omega)) ?_
  rintro e w2 ⟨rfl, v2, f2, h2, m2, s2⟩
  obtain ⟨m, s'⟩ := Mk.then m1 s1 m2 s2
  exact ⟨_, rfl, rfl, v2, f2, h2, m, s'⟩
end Go.Proofs.Ytbmlfbcanjobfaa.Pool
