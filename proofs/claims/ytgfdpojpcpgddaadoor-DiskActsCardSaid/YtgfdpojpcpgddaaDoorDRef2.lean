/- The document's disk, walked: the value of a sector, a move, a store, a barrier. -/
import Derived.Test.YtgfdpojpcpgddaaDoorDRef1
import Derived.Test.YtgfdpojpcpgddaaDoorStr
namespace Go.Proofs.YtgfdpojpcpgddaaDoor.Disk
open Go Go.Proofs.YtgfdpojpcpgddaaDoor Go.Proofs.YtgfdpojpcpgddaaDoor.Eng Go.Proofs
set_option maxRecDepth 10000

theorem vals_last (c : Cl) : (vals c)[c.ws.length]? = some (strV c.now) := by
  unfold vals
  rw [List.getElem?_map]
  rcases c.now_mem with ⟨h, e⟩ | ⟨h, e⟩
  · rw [h, e]
    rfl
  · obtain ⟨k, hk⟩ : ∃ k, c.ws.length = k + 1 := ⟨c.ws.length - 1, by omega⟩
    rw [hk] at e
    rw [hk, List.getElem?_cons_succ, show k + 1 - 1 = k from rfl] at *
    rw [e]
    rfl
section
variable {w : World} {base g q vc : Nat} {L : List Value} {s : DS}
theorem Rk.set (h : Rk w base g q vc L s) (j : Nat) (v : Value) (s' : DS) (hcs : s'.cs = s.cs) (hb : (#[.slice (some ⟨q, 0, none⟩) s.cs.length vc, .int .i64 s.moves, .int .i64 s.trip, .bool s.gone] : Array Value).setIfInBounds j v = #[.slice (some ⟨q, 0, none⟩) s.cs.length vc, .int .i64 s'.moves, .int .i64 s'.trip, .bool s'.gone]) :
    Rk (w.setCell ⟨g, j, none⟩ v) base g q vc L s' ∧ Mod (fun b => b = g) w (w.setCell ⟨g, j, none⟩ v) := by
  have m := Mod.set w ⟨g, j, none⟩ v
  have hbl := heap_setCell_same w g j _ _ v h.blk
  rw [hb] at hbl
  have hgq := h.gq
  refine ⟨⟨by rw [hcs]; exact hbl, ?_, ?_, h.gq, h.bg⟩, m⟩
  · rw [hcs]
    exact own_mod m h.row (fun k hk e => by cases hk; exact hgq e.symm)
  · intro i c hi
    rw [hcs] at hi
    obtain ⟨u, hu, hsv⟩ := h.each i c hi
    exact ⟨u, hu, hsv.mod m (fun b hb => .inl hb)⟩
theorem Rk.len (h : Rk w base g q vc L s) : L.length = s.cs.length := by have := h.row.1; omega
theorem Rk.put (h : Rk w base g q vc L s) (i : Nat) (hi : i < s.cs.length) (c' : Cl) (v' : Value) (hv : SV w g q v' c') :
    (∃ u, w.cell? ⟨q, i, none⟩ = some u) ∧ w.frozen? ⟨q, i, none⟩ = false ∧ Rk (w.setCell ⟨q, i, none⟩ v') base g q vc (L.set i v') { s with cs := s.cs.set i c' } ∧ Mod (fun b => b = q) w (w.setCell ⟨q, i, none⟩ v') := by
  have hl := h.len
  obtain ⟨h1, h2, h3⟩ := own_store h.row i (by omega)
  obtain ⟨ho, hm⟩ := h3 v'
  have hgq := h.gq
  refine ⟨⟨_, h1⟩, h2, ⟨?_, ?_, ?_, h.gq, h.bg⟩, hm⟩
  · rw [List.length_set]
    exact hm.blk h.blk hgq
  · rw [List.length_set]
    exact ho
  · intro j c hj
    dsimp only at hj
    rw [List.getElem?_set] at hj
    by_cases e : i = j
    · subst e
      rw [if_pos rfl, if_pos hi] at hj
      cases hj
      exact ⟨v', by rw [List.getElem?_set_self (by omega)], hv.mod hm (fun b hb => .inr (.inl hb))⟩
    · rw [if_neg e] at hj
      obtain ⟨v, hv1, hv2⟩ := h.each j c hj
      exact ⟨v, by rw [List.getElem?_set_ne e]; exact hv1, hv2.mod hm (fun b hb => .inr (.inl hb))⟩
/-- A sector's list, where it lies. -/
theorem Rk.sec (h : Rk w base g q vc L s) (i : Nat) (hi : i < s.cs.length) : ∃ A m, w.cell? ⟨q, i, none⟩ = some (.slice A (vals s.cs[i]).length m) ∧ Row w A (vals s.cs[i]) ∧ (vals s.cs[i]).length ≤ m ∧ m ≤ 9223372036854775807 ∧ s.cs[i].ok := by
  obtain ⟨v, hv, A, m, rfl, hr, h1, h2, _, h4⟩ := h.each i _ (List.getElem?_eq_getElem hi)
  exact ⟨A, m, (h.row.cellAt i (by omega)).trans hv, hr, h1, h2, h4⟩
/-- The blocks of the document's disk. -/
def RSet (g q : Nat) (L : List Value) (b : Nat) : Prop := b = g ∨ b = q ∨ ∃ (i : Nat) (v : Value), L[i]? = some v ∧ v.ownBlock = some b
def RW (g q : Nat) (b : Nat) : Prop := b = g ∨ b = q
theorem Rk.all (h : Rk w base g q vc L s) : ∀ b, RSet g q L b → b < w.heap.size := by
  rintro b (rfl | rfl | ⟨i, v, hi, hb⟩)
  · exact h.lt.1
  · exact h.lt.2.1
  · have hil : i < s.cs.length := by rw [← h.len]; exact (List.getElem?_eq_some_iff.1 hi).1
    obtain ⟨u, hu, A, m, rfl, _, _, _, h3, _⟩ := h.each i _ (List.getElem?_eq_getElem hil)
    rw [hi] at hu
    cases hu
    cases A with
    | none => cases hb
    | some a => cases hb; exact (h3 a rfl).2.2
theorem Rk.keep {S : Nat → Prop} {w' : World} (h : Rk w base g q vc L s) (m : Mod S w w') (hS : ∀ b, RSet g q L b → ¬ S b) : Rk w' base g q vc L s :=
  h.mod m (hS g (.inl rfl)) (hS q (.inr (.inl rfl))) fun i A n k hi a ha => hS _ (.inr (.inr ⟨i, _, hi, by subst ha; rfl⟩))
theorem RSet.set {i : Nat} {v : Value} {b n : Nat} (h : RSet g q (L.set i v) b) (hv : ∀ b, v.ownBlock = some b → n ≤ b) : RSet g q L b ∨ n ≤ b := by
  rcases h with h | h | ⟨j, u, hj, hb⟩
  · exact .inl (.inl h)
  · exact .inl (.inr (.inl h))
  · rw [List.getElem?_set] at hj
    split at hj
    · split at hj
      · cases hj
        exact .inr (hv b hb)
      · cases hj
    · exact .inl (.inr (.inr ⟨j, u, hj, hb⟩))
end

theorem RLast_ok (base g q vc : Nat) (L : List Value) (s : DS) (i : Nat) (hi : i < s.cs.length) (w : World) (h : Rk w base g q vc L s) (hl : s.cs[i].ws.length ≤ 100000) :
    Calls Tryd.prog 48 #[.pointer (some ⟨g, 0, none⟩), .int .i64 i] w fun e w' => e = .returned (strV s.cs[i].now) ∧ New w w' := by
  refine enter ok Tryd.func48 rfl rfl rfl ?_
  obtain ⟨A, m, hcell, hrow, hm1, hm2, hok⟩ := h.sec i hi
  have hc0 := h.c0
  have hvl := vals_len s.cs[i]
  have ex : (⟨q, 0, none⟩ : Addr).add ((i : Int).toNat * 1) = ⟨q, i, none⟩ := by rw [Nat.mul_one, Int.toNat_natCast, ad0]
  refine draw_ ok (.q 0 (.q 1 (.q 2 (.q 3 (.q 4 (.q 5 (.q 6 (.q 7 (.q 8 (.q 9 (.q 10 (.q 11 (.q 12 (.q 13 (.q 14 (.q 15 (.q 16 (.q 17 (.q 18 .done))))))))))))))))))) [18] (New w) (by kernel_rfl) (by kernel_rfl) (by kernel_rfl) (by kernel_rfl) (by kernel_rfl) (New.drew _) ?_
  refine Exists.intro (some ⟨q, 0, none⟩) (Exists.intro s.cs.length (Exists.intro vc ?_))
  refine And.intro (fun w'' hw => by rw [ad0]; exact hw.cell hc0) ?_
  refine And.intro (by omega) (And.intro (by omega) ?_)
  refine Exists.intro A (Exists.intro (vals s.cs[i]).length (Exists.intro m ?_))
  refine And.intro (fun w'' hw => by rw [ex]; exact hw.cell hcell) ?_
  refine Exists.intro (some ⟨q, 0, none⟩) (Exists.intro s.cs.length (Exists.intro vc ?_))
  refine And.intro (fun w'' hw => by rw [ad0]; exact hw.cell hc0) ?_
  refine And.intro (by omega) (And.intro (by omega) ?_)
  refine Exists.intro A (Exists.intro (vals s.cs[i]).length (Exists.intro m ?_))
  refine And.intro (fun w'' hw => by rw [ex]; exact hw.cell hcell) ?_
  have e1 : IntKind.i64.wrap (((vals s.cs[i]).length : Int) - 1) = (s.cs[i].ws.length : Int) := by rw [wrap_i64 (by omega) (by omega)]; omega
  obtain ⟨a, rfl, hac⟩ := hrow _ _ (vals_last s.cs[i])
  refine And.intro (by rw [e1]; omega) (And.intro (by rw [e1]; omega) ?_)
  refine Exists.intro ⟨s.cs[i].now.toArray⟩ ?_
  refine And.intro (fun w'' hw => by rw [e1, Int.toNat_natCast, Nat.mul_one]; exact hw.cell hac) ?_
  exact ⟨rfl, New.drew _⟩

theorem RMove_ok (base g q vc : Nat) (L : List Value) (s : DS) (w : World) (h : Rk w base g q vc L s) (hf : s.fine) :
    Calls Tryd.prog 47 #[.pointer (some ⟨g, 0, none⟩)] w fun e w' => e = .returned (.bool s.can) ∧ Rk w' base g q vc L s.mv ∧ Mod (fun b => b = g) w w' := by
  refine enter ok Tryd.func47 rfl rfl rfl ?_
  have stop : s.can = false → (Ending.returned (.bool false) = .returned (.bool s.can) ∧ Rk (w.setCell ((⟨g, 0, none⟩ : Addr).add 3) (.bool true)) base g q vc L s.mv ∧ Mod (fun b => b = g) w (w.setCell ((⟨g, 0, none⟩ : Addr).add 3) (.bool true))) := by
    intro hcan
    have hmv : s.mv = { s with gone := true } := by unfold DS.mv; rw [if_neg (by rw [hcan]; simp)]
    obtain ⟨h1, m1⟩ := h.set 3 (.bool true) { s with gone := true } rfl rfl
    rw [hcan, hmv, ad0]
    exact ⟨rfl, h1, m1⟩
  refine Exists.intro s.gone ?_
  refine And.intro (by rw [ad0]; exact h.c3) ?_
  refine if_ (fun hg => ?_) (fun hg => ?_)
  · have hcan : s.can = false := by simp [DS.can, hg]
    refine And.intro ⟨_, by rw [ad0]; exact h.c3⟩ (And.intro (by rw [ad0]; exact h.fz 3) ?_)
    exact stop hcan
  refine Exists.intro s.trip ?_
  refine And.intro (by rw [ad0]; exact h.c2) ?_
  refine if_p (fun ht => ?_) (fun ht => ?_)
  · have hcan : s.can = false := by simp [DS.can, ht]
    refine And.intro ⟨_, by rw [ad0]; exact h.c3⟩ (And.intro (by rw [ad0]; exact h.fz 3) ?_)
    exact stop hcan
  have hcan : s.can = true := by simp [DS.can, hg, ht]
  have hmv : s.mv = { s with trip := max (s.trip - 1) (-1), moves := s.moves + 1 } := by unfold DS.mv; rw [if_pos hcan]
  have hf0 := hf.trip0
  have hf1 := hf.trip1
  have hf2 := hf.moves0
  have hf3 := hf.moves1
  have em : IntKind.i64.wrap (s.moves + 1) = s.moves + 1 := wrap_i64 (by omega) (by omega)
  refine Exists.intro s.trip ?_
  refine And.intro (by rw [ad0]; exact h.c2) ?_
  refine seq_cut (σ := Unit) (fun _ => [(0, .pointer (some ⟨g, 0, none⟩))]) (fun _ w1 => Rk w1 base g q vc L { s with trip := max (s.trip - 1) (-1) } ∧ Mod (fun b => b = g) w w1) ?_ ?_
  rotate_left
  · intro K hK
    refine if_p (fun hp => ?_) (fun hp => ?_)
    · have et : IntKind.i64.wrap (s.trip - 1) = max (s.trip - 1) (-1) := by
        rw [wrap_i64 (by omega) (by omega)]
        omega
      obtain ⟨h1, m1⟩ := h.set 2 (.int .i64 (max (s.trip - 1) (-1))) { s with trip := max (s.trip - 1) (-1) } rfl rfl
      refine Exists.intro s.trip ?_
      refine And.intro (by rw [ad0]; exact h.c2) ?_
      refine And.intro ⟨_, by rw [ad0]; exact h.c2⟩ (And.intro (by rw [ad0]; exact h.fz 2) ?_)
      refine hK () _ _ ⟨rfl, trivial⟩ ?_
      rw [et, ad0]
      exact ⟨h1, m1⟩
    · refine hK () _ _ ⟨rfl, trivial⟩ ⟨?_, Mod.refl _ _⟩
      have e1 : max (s.trip - 1) (-1) = s.trip := by omega
      rw [e1]
      exact h
  rintro _ w1 fr1 ⟨h1, m1⟩
  refine Exists.intro s.moves ?_
  refine And.intro (by rw [ad0]; exact h1.c1) ?_
  refine And.intro ⟨_, by rw [ad0]; exact h1.c1⟩ (And.intro (by rw [ad0]; exact h1.fz 1) ?_)
  obtain ⟨h2, m2⟩ := h1.set 1 (.int .i64 (s.moves + 1)) { s with trip := max (s.trip - 1) (-1), moves := s.moves + 1 } rfl rfl
  rw [ad0, em, hcan, hmv]
  exact ⟨rfl, h2, Mod.trans m1 m2 fun _ _ h => h⟩
end Go.Proofs.YtgfdpojpcpgddaaDoor.Disk
