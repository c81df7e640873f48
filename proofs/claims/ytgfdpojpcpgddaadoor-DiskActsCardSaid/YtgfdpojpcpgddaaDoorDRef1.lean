/- The document's disk, walked: in memory; made. -/
import Derived.Test.YtgfdpojpcpgddaaDoorDLoad
namespace Go.Proofs.YtgfdpojpcpgddaaDoor.Disk
open Go Go.Proofs.YtgfdpojpcpgddaaDoor Go.Proofs.YtgfdpojpcpgddaaDoor.Eng Go.Proofs
set_option maxRecDepth 10000

def strV (x : Sec) : Value := .string ⟨x.toArray⟩
/-- A sector's values: the sure one, then what waits. -/
def vals (c : Cl) : List Value := (c.sure :: c.ws).map strV
theorem vals_len (c : Cl) : (vals c).length = c.ws.length + 1 := by simp [vals]
/-- A sector's list, in memory. -/
def SV (w : World) (g q : Nat) (v : Value) (c : Cl) : Prop := ∃ A m, v = .slice A (vals c).length m ∧ Row w A (vals c) ∧ (vals c).length ≤ m ∧ m ≤ 9223372036854775807 ∧ (∀ a, A = some a → a.block ≠ g ∧ a.block ≠ q ∧ a.block < w.heap.size) ∧ c.ok
/-- The document's disk, in memory. -/
structure Rk (w : World) (base g q vc : Nat) (L : List Value) (s : DS) : Prop where
  blk : w.heap[g]? = some (.cells #[.slice (some ⟨q, 0, none⟩) s.cs.length vc, .int .i64 s.moves, .int .i64 s.trip, .bool s.gone] 59 (0, 0))
  row : w.ownsRow base 74 1 (.slice (some ⟨q, 0, none⟩) s.cs.length vc) s.cs.length L
  each : ∀ (i : Nat) c, s.cs[i]? = some c → ∃ v, L[i]? = some v ∧ SV w g q v c
  gq : g ≠ q
  bg : base ≤ g
theorem SV.mod {S : Nat → Prop} {w w' : World} {g q : Nat} {v : Value} {c : Cl} (h : SV w g q v c) (m : Mod S w w') (hS : ∀ b, S b → b = g ∨ b = q ∨ w.heap.size ≤ b) : SV w' g q v c := by
  obtain ⟨A, k, rfl, hr, h1, h2, h3, h4⟩ := h
  refine ⟨A, k, rfl, hr.mod m (fun a ha hs => ?_), h1, h2, fun a ha => ⟨(h3 a ha).1, (h3 a ha).2.1, Nat.lt_of_lt_of_le (h3 a ha).2.2 m.size⟩, h4⟩
  rcases hS _ hs with e | e | e
  · exact (h3 a ha).1 e
  · exact (h3 a ha).2.1 e
  · have := (h3 a ha).2.2; omega
theorem Rk.lt {w : World} {base g q vc : Nat} {L : List Value} {s : DS} (h : Rk w base g q vc L s) : g < w.heap.size ∧ q < w.heap.size ∧ base ≤ q := by
  have := h.row.lt q rfl
  exact ⟨(Array.getElem?_eq_some_iff.1 h.blk).1, this.2, this.1⟩
theorem Rk.mod {S : Nat → Prop} {w w' : World} {base g q vc : Nat} {L : List Value} {s : DS} (h : Rk w base g q vc L s) (m : Mod S w w') (hg : ¬ S g) (hq : ¬ S q) (hS : ∀ (i : Nat) A n k, L[i]? = some (.slice A n k) → ∀ a, A = some a → ¬ S a.block) : Rk w' base g q vc L s := by
  refine ⟨m.blk h.blk hg, own_mod m h.row (fun k hk => by cases hk; exact hq), fun i c hi => ?_, h.gq, h.bg⟩
  obtain ⟨v, hv, A, k, rfl, hr, h1, h2, h3, h4⟩ := h.each i c hi
  exact ⟨_, hv, A, k, rfl, hr.mod m (fun a ha => hS i _ _ _ hv a ha), h1, h2, fun a ha => ⟨(h3 a ha).1, (h3 a ha).2.1, Nat.lt_of_lt_of_le (h3 a ha).2.2 m.size⟩, h4⟩
theorem Rk.new {w w' : World} {base g q vc : Nat} {L : List Value} {s : DS} (h : Rk w base g q vc L s) (m : New w w') : Rk w' base g q vc L s := h.mod m (fun h => h) (fun h => h) (fun _ _ _ _ _ _ _ h => h)
theorem Rk.c0 {w : World} {base g q vc : Nat} {L : List Value} {s : DS} (h : Rk w base g q vc L s) : w.cell? ⟨g, 0, none⟩ = some (.slice (some ⟨q, 0, none⟩) s.cs.length vc) := by
  rw [cell_of_row _ _ 0 _ _ _ h.blk]; rfl
theorem Rk.c1 {w : World} {base g q vc : Nat} {L : List Value} {s : DS} (h : Rk w base g q vc L s) : w.cell? ⟨g, 1, none⟩ = some (.int .i64 s.moves) := by
  rw [cell_of_row _ _ 1 _ _ _ h.blk]; rfl
theorem Rk.c2 {w : World} {base g q vc : Nat} {L : List Value} {s : DS} (h : Rk w base g q vc L s) : w.cell? ⟨g, 2, none⟩ = some (.int .i64 s.trip) := by
  rw [cell_of_row _ _ 2 _ _ _ h.blk]; rfl
theorem Rk.c3 {w : World} {base g q vc : Nat} {L : List Value} {s : DS} (h : Rk w base g q vc L s) : w.cell? ⟨g, 3, none⟩ = some (.bool s.gone) := by
  rw [cell_of_row _ _ 3 _ _ _ h.blk]; rfl
theorem Rk.fz {w : World} {base g q vc : Nat} {L : List Value} {s : DS} (h : Rk w base g q vc L s) (j : Nat) : w.frozen? ⟨g, j, none⟩ = false := frozen_of_row w g j _ _ h.blk
theorem Rk.oks {w : World} {base g q vc : Nat} {L : List Value} {s : DS} (h : Rk w base g q vc L s) : ∀ c ∈ s.cs, c.ok := by
  intro c hc
  obtain ⟨i, hi, rfl⟩ := List.getElem_of_mem hc
  obtain ⟨v, _, _, _, _, _, _, _, _, h4⟩ := h.each i _ (List.getElem?_eq_getElem hi)
  exact h4
theorem str_one (l : List Sec) : ∀ u ∈ l.map strV, u.oneCell' = true := by
  intro u hu
  obtain ⟨x, _, rfl⟩ := List.mem_map.1 hu
  rfl

theorem nought_ok (w : World) : Calls Tryd.prog 46 #[] w fun e w' => e = .returned (strV (rep 0)) ∧ New w w' := by
  refine enter ok Tryd.func46 rfl rfl rfl ?_
  refine seq_assign (seq_ (region_ ?_))
  change evStep _ _ _ _ _ _ _ _
  change evOp Tryd.prog T F _ _ _ _
  unfold evOp evPure
  dsimp only
  refine make_ (n := 256) ok rfl rfl rfl rfl rfl rfl ?_ (by omega) rfl rfl ?_
  · show 1 * 256 ≤ _; omega
  intro w1 own1 n1
  have e0 : List.replicate 256 (Value.int .u8 0) = bvs (rep 0) := (bvs_zero 256).symm
  have own1' : w1.ownsRow w.heap.size 5 1 (.slice (some ⟨w.heap.size, 0, none⟩) 256 256) 256 (bvs (rep 0)) := by rw [← e0]; exact own1
  obtain ⟨A, c, he, _, _, hrow, _⟩ := own_slice own1'
  cases he
  exact Exists.intro (rep 0) (And.intro (rep_len 0) (And.intro hrow ⟨rfl, n1⟩))
theorem RMake_err (n : Int) (w : World) (hn : n < 1 ∨ 4096 < n) : Calls Tryd.prog 24 #[.int .i64 n] w fun e w' => e = .returned (.tuple #[.pointer none, .int .i64 2]) ∧ w' = w := by
  refine enter ok Tryd.func24 rfl rfl rfl ?_
  refine if_p (fun h => ⟨rfl, rfl⟩) (fun h1 => ?_)
  refine if_p (fun h => ⟨rfl, rfl⟩) (fun h2 => ?_)
  omega
/-- A list of one nought. -/
def NV (w : World) (g : Nat) (v : Value) : Prop := ∃ A m, v = .slice A 1 m ∧ Row w A [strV (rep 0)] ∧ 1 ≤ m ∧ m ≤ 9223372036854775807 ∧ ∀ a, A = some a → a.block ≠ g ∧ a.block < w.heap.size ∧ g ≤ a.block
theorem NV.mod {S : Nat → Prop} {w w' : World} {g : Nat} {v : Value} (h : NV w g v) (m : Mod S w w') (hS : ∀ A n k, v = .slice A n k → ∀ a, A = some a → ¬ S a.block) : NV w' g v := by
  obtain ⟨A, k, rfl, hr, h1, h2, h3⟩ := h
  exact ⟨A, k, rfl, hr.mod m (hS _ _ _ rfl), h1, h2, fun a ha => ⟨(h3 a ha).1, Nat.lt_of_lt_of_le (h3 a ha).2.1 m.size, (h3 a ha).2.2⟩⟩
theorem RMake_ok (n : Nat) (w : World) (hn0 : 1 ≤ n) (hn : n ≤ 4096) :
    Calls Tryd.prog 24 #[.int .i64 n] w fun e w' => ∃ g q vc L, e = .returned (.tuple #[.pointer (some ⟨g, 0, none⟩), .int .i64 0]) ∧ Rk w' w.heap.size g q vc L (fresh n) ∧ New w w' ∧ ∀ v ∈ L, ∀ b, v.ownBlock = some b → w.heap.size ≤ b := by
  refine enter ok Tryd.func24 rfl rfl rfl ?_
  refine if_p (fun h => absurd h (by omega)) (fun _ => ?_)
  refine if_p (fun h => absurd h (by omega)) (fun _ => ?_)
  have n1 := New.alloc w (.cells #[.slice none 0 0, .int .i64 0, .int .i64 (-1), .bool false] 59)
  have b1 := heap_alloc_new w (.cells #[.slice none 0 0, .int .i64 0, .int .i64 (-1), .bool false] 59)
  refine den_loop (σ := Nat × Value × List Value) (fun t => [(0, .int .i64 n), (4, .pointer (some ⟨w.heap.size, 0, none⟩)), (5, .int .i64 t.1)])
    (fun m t wl => t.1 ≤ n ∧ m = n - t.1 ∧ wl.heap[w.heap.size]? = some (.cells #[t.2.1, .int .i64 0, .int .i64 (-1), .bool false] 59 (0, 0)) ∧ wl.ownsRow w.heap.size 74 1 t.2.1 t.1 t.2.2 ∧ t.2.1.ownBlock ≠ some w.heap.size ∧ (∀ v ∈ t.2.2, NV wl w.heap.size v ∧ ∀ A k m, v = .slice A k m → ∀ a, A = some a → some a.block ≠ t.2.1.ownBlock) ∧ New w wl) n (0, .slice none 0 0, []) ⟨rfl, rfl, rfl, trivial⟩
    ⟨Nat.zero_le _, rfl, b1, ⟨rfl, .inl ⟨rfl, rfl⟩⟩, by simp [Value.ownBlock], by simp, n1⟩ ?_
  rintro m ⟨i, vv, L⟩ wl fr0 ⟨hi, rfl, hb, hown, hoff, hall, nl⟩
  dsimp only at hi hb hown hoff hall nl
  refine if_p (fun hlt => ?_) (fun hge => ?_)
  rotate_left
  · replace hge : ¬ (i : Int) < n := hge
    have hin : i = n := by omega
    subst hin
    have hLl : L.length = i := by have := hown.1; omega
    obtain ⟨q, vc, rfl, hbq, hql, _, _⟩ := own_pos hown (by omega)
    have hgq : w.heap.size ≠ q := fun e => hoff (by simp [Value.ownBlock, e])
    refine ⟨w.heap.size, q, vc, L, rfl, ⟨?_, ?_, ?_, hgq, Nat.le_refl _⟩, nl, fun v hv b hb => ?_⟩
    · have : (fresh i).cs.length = i := by simp [fresh]
      rw [this]
      exact hb
    · have : (fresh i).cs.length = i := by simp [fresh]
      rw [this]
      exact hown
    · intro j c hj
      have hjl : j < i := by
        have := (List.getElem?_eq_some_iff.1 hj).1
        simpa [fresh] using this
      have hc : c = ⟨[], rep 0⟩ := by
        simp only [fresh] at hj
        rw [List.getElem?_replicate, if_pos hjl] at hj
        exact (Option.some.inj hj).symm
      subst hc
      obtain ⟨⟨A, k, hv, hr, h1, h2, h3⟩, h4⟩ := hall _ (List.getElem_mem (show j < L.length by omega))
      refine ⟨_, List.getElem?_eq_getElem (by omega), A, k, hv, hr, h1, h2, fun a ha => ⟨(h3 a ha).1, ?_, (h3 a ha).2.1⟩, ⟨rep_len 0, by simp⟩⟩
      intro e
      exact h4 A 1 k hv a ha (by simp [Value.ownBlock, e])
    · obtain ⟨⟨A, k, hv', _, _, _, h3⟩, _⟩ := hall v hv
      subst hv'
      cases A with
      | none => cases hb
      | some a => cases hb; exact (h3 a rfl).2.2
  replace hlt : (i : Int) < n := hlt
  obtain ⟨A0, c0, rfl, _⟩ := own_slice hown
  have hcell : wl.cell? ⟨w.heap.size, 0, none⟩ = some (.slice A0 i c0) := by rw [cell_of_row _ _ 0 _ _ _ hb]; rfl
  have hne : ¬ some w.heap.size = (Value.slice A0 i c0).ownBlock := fun e => hoff e.symm
  have hwl : w.heap.size < wl.heap.size := (Array.getElem?_eq_some_iff.1 hb).1
  refine draw_ ok (.q 0 (.q 1 (.q 2 (.q 3 (.q 4 (.e 5 (.e 6 (.e 7 (.e 8 (.q 9 (.q 10 (.e 11 .done)))))))))))) [11] (Mod (fun b => some b = (Value.slice A0 i c0).ownBlock) wl) (by kernel_rfl) (by kernel_rfl) (by kernel_rfl) (by kernel_rfl) (by kernel_rfl) (New.drew _).mod ?_
  refine Exists.intro A0 (Exists.intro i (Exists.intro c0 ?_))
  refine And.intro (fun w'' hw => by rw [ad0]; exact hw.cell hcell hne) ?_
  refine call_ (nought_ok wl.drew) ?_
  rintro e w2 ⟨rfl, n2⟩
  refine ⟨_, rfl, ?_⟩
  have k2 := (New.drew wl).trans n2
  refine Exists.intro (Mod (fun b => some b = (Value.slice A0 i c0).ownBlock) wl) (And.intro (fun _ h => h) (And.intro k2.mod ?_))
  refine eff_build (xs := [strV (rep 0)]) rfl rfl rfl rfl rfl rfl rfl rfl rfl ?_
  have k3 := k2.trans (New.alloc w2 (.cells #[strV (rep 0)] 9))
  refine Exists.intro (Mod (fun b => some b = (Value.slice A0 i c0).ownBlock) wl) (And.intro (fun _ h => h) (And.intro k3.mod ?_))
  refine eff_build (xs := [.slice (some ⟨w2.heap.size, 0, none⟩) 1 1]) rfl rfl rfl rfl rfl rfl rfl rfl rfl ?_
  have a4 := New.alloc (w2.alloc (.cells #[strV (rep 0)] 9)) (.cells #[.slice (some ⟨w2.heap.size, 0, none⟩) 1 1] 74)
  have k4 := k3.trans a4
  refine Exists.intro (Mod (fun b => some b = (Value.slice A0 i c0).ownBlock) wl) (And.intro (fun _ h => h) (And.intro k4.mod ?_))
  refine eff_app rfl rfl (fun _ _ => rfl) ?_
  have hs2 := k2.size
  refine append2_ ok rfl rfl rfl rfl (own_new k4 hown) rfl rfl (row_alloc (w2.alloc (.cells #[strV (rep 0)] 9)) [.slice (some ⟨w2.heap.size, 0, none⟩) 1 1] _ _) rfl (by intro u hu; rw [List.mem_singleton.1 hu]; rfl) (by decide) rfl (by show (i + 1) * 24 ≤ _; omega) (by omega) (by have := k4.size; omega) ?_
  intro A5 c5 w5 own5 mod5 st5
  have m5 : Mod (fun b => some b = (Value.slice A0 i c0).ownBlock) wl w5 := Mod.trans k4.mod mod5 fun _ _ h => h
  refine Exists.intro (Mod (fun b => some b = (Value.slice A0 i c0).ownBlock) wl) (And.intro (fun _ h => h) (And.intro m5 ?_))
  have hb5 := m5.blk hb hne
  refine And.intro ⟨_, by rw [ad0, cell_of_row _ _ 0 _ _ _ hb5]; rfl⟩ (And.intro (by rw [ad0]; exact frozen_of_row _ _ _ _ _ hb5) ?_)
  have m6 := Mod.set w5 ⟨w.heap.size, 0, none⟩ (.slice A5 (i + 1) c5)
  have hb6 := heap_setCell_same w5 w.heap.size 0 _ _ (.slice A5 (i + 1) c5) hb5
  have hoff5 : (Value.slice A5 (i + 1) c5).ownBlock ≠ some w.heap.size := fun e => by
    rcases st5 _ e with h | h
    · exact hoff h
    · have := k4.size; omega
  have hz4 : (w2.alloc (.cells #[strV (rep 0)] 9)).heap.size = w2.heap.size + 1 := by simp
  have hz5 : ((w2.alloc (.cells #[strV (rep 0)] 9)).alloc (.cells #[.slice (some ⟨w2.heap.size, 0, none⟩) 1 1] 74)).heap.size = w2.heap.size + 2 := by simp
  have hrow1 : Row (w2.alloc (.cells #[strV (rep 0)] 9)) (some ⟨w2.heap.size, 0, none⟩) [strV (rep 0)] := row_alloc w2 [strV (rep 0)] _ _
  refine ⟨n - (i + 1), (i + 1, .slice A5 (i + 1) c5, L ++ [.slice (some ⟨w2.heap.size, 0, none⟩) 1 1]), by omega, ⟨rfl, rfl, ?_, trivial⟩, by show i + 1 ≤ n; omega, rfl, ?_, ?_, hoff5, ?_, ?_⟩
  · show Value.int .i64 (IntKind.i64.wrap _) = _
    rw [wrap_i64 (by omega) (by omega)]
    rfl
  · rw [ad0]
    exact hb6
  · rw [ad0]
    exact own_mod m6 own5 (fun k hk e => hoff5 (by rw [hk]; exact congrArg some e))
  · rw [ad0]
    intro v hv
    rcases List.mem_append.1 hv with hv | hv
    · obtain ⟨h1, h2⟩ := hall v hv
      have h1' := h1
      obtain ⟨A, k, hve, _, _, _, h3⟩ := h1'
      have h15 := h1.mod m5 (fun A n k hv' a ha e => h2 A n k hv' a ha e)
      refine ⟨h15.mod m6 (fun A' n' k' hv' a ha e => ?_), fun A' n' k' hv' a ha e => ?_⟩
      · rw [hv'] at hve
        cases hve
        exact (h3 a ha).1 e
      · rw [hv'] at hve
        cases hve
        rcases st5 _ e.symm with h | h
        · exact h2 _ _ _ hv' a ha h.symm
        · have := (h3 a ha).2.1; have := k4.size; omega
    · rw [List.mem_singleton.1 hv]
      have hr5 : Row w5 (some ⟨w2.heap.size, 0, none⟩) [strV (rep 0)] := (hrow1.new a4).mod mod5 (fun a ha e => by
        cases ha
        have := (hown.lt _ e.symm).2
        have e' : w2.heap.size < wl.heap.size := this
        omega)
      refine ⟨⟨_, _, rfl, hr5.mod m6 (fun a ha e => by cases ha; have e' : w2.heap.size = w.heap.size := e; omega), Nat.le_refl _, by omega, fun a ha => ?_⟩, fun A k m he a ha e => ?_⟩
      · cases ha
        have h5 := mod5.size
        exact ⟨by show w2.heap.size ≠ w.heap.size; omega, Nat.lt_of_lt_of_le (show w2.heap.size < w5.heap.size by omega) m6.size, by show w.heap.size ≤ w2.heap.size; omega⟩
      · injection he with h1 h2 h3
        subst h1
        cases ha
        rcases st5 _ e.symm with h | h
        · have h' := (hown.lt _ h).2
          have e' : w2.heap.size < wl.heap.size := h'
          omega
        · have h' : ((w2.alloc (.cells #[strV (rep 0)] 9)).alloc (.cells #[.slice (some ⟨w2.heap.size, 0, none⟩) 1 1] 74)).heap.size ≤ w2.heap.size := h
          omega
  · rw [ad0]
    refine Mod.trans (Mod.trans nl m5 (fun b hb e => ?_)) m6 (fun b hb e => ?_)
    · have := (hown.lt b e.symm).1; omega
    · have e' : b = w.heap.size := e; omega
end Go.Proofs.YtgfdpojpcpgddaaDoor.Disk
