/- The package disk, walked: a value that waits. -/
import Derived.Test.YtgfdpojpcpgddaaDoorDisk2
namespace Go.Proofs.YtgfdpojpcpgddaaDoor.Disk
open Go Go.Proofs.YtgfdpojpcpgddaaDoor Go.Proofs.YtgfdpojpcpgddaaDoor.Eng Go.Proofs
set_option maxRecDepth 10000

/-- What a store may turn. -/
abbrev QS (q : Nat) (v : Value) : Nat → Prop := fun b => b = q ∨ some b = v.ownBlock
theorem Dk.waits {w w3 : World} {base g q i : Nat} {vs : Nat → Value} {s : DS} {c : Cl} {x : Sec} {v' : Value} (h : Dk w base g q vs s) (hi : s.cs[i]? = some c) (hx : x.length = 256) (m3 : Mod (fun b => some b = (vs i).ownBlock) w w3)
    (own3 : w3.ownsRow base 68 256 v' (c.ws.length + 1) (c.ws.flatMap bvs ++ bvs x)) (st : stayed w (vs i) v') :
    (∃ u, w3.cell? ⟨q, i * 257, none⟩ = some u) ∧ w3.frozen? ⟨q, i * 257, none⟩ = false ∧
      Dk (w3.setCell ⟨q, i * 257, none⟩ v') base g q (fun j => if j = i then v' else vs j) { s with cs := s.cs.set i (c.put x) } ∧ Mod (QS q (vs i)) w (w3.setCell ⟨q, i * 257, none⟩ v') := by
  obtain ⟨a, ha, hs⟩ := h.arr
  have hil := (List.getElem?_eq_some_iff.1 hi).1
  have hca := h.each i c hi
  have hqo : ¬ some q = (vs i).ownBlock := fun e => (h.off i hil q e.symm).2 rfl
  have ha3 := m3.blk ha hqo
  have hql := (h.lt q (.inr (.inl rfl))).2
  have hm : Mod (QS q (vs i)) w (w3.setCell ⟨q, i * 257, none⟩ v') := Mod.trans (m3.mono fun b _ e => .inr e) (Mod.set w3 ⟨q, i * 257, none⟩ v') fun b _ e => .inl e
  have hb := heap_setCell_same w3 q (i * 257) a _ v' ha3
  have hget : ∀ x, (w3.setCell ⟨q, i * 257, none⟩ v').cell? ⟨q, x, none⟩ = if x = i * 257 then some v' else w.cell? ⟨q, x, none⟩ := by
    intro x
    rw [cell_of_row _ _ _ _ _ _ hb, cell_of_row _ _ _ _ _ _ ha, Array.getElem?_setIfInBounds]
    by_cases hx : x = i * 257
    · subst hx
      rw [if_pos rfl, if_pos rfl, if_pos (by omega)]
    · rw [if_neg (fun e => hx e.symm), if_neg hx]
  have hvq : ∀ b, v'.ownBlock = some b → b ≠ q := fun b hb => by
    rcases st b hb with e | e
    · exact (h.off i hil b e).2
    · omega
  refine ⟨⟨a[i * 257]'(by omega), by rw [cell_of_row _ _ _ _ _ _ ha3, Array.getElem?_eq_getElem]⟩, frozen_of_row _ _ _ _ _ ha3, ?_, hm⟩
  refine h.update hi hm (fun b hb => hb.imp id fun e => e.symm) (fun b hb => st b hb) ⟨_, hb, by simpa using hs⟩ ?_ ⟨?_, ?_, ?_, hca.ok.put hx⟩
  · intro x hx
    rw [hget, if_neg (by omega)]
  · rw [hget, if_pos rfl]
  · intro k u hu
    rw [hget, if_neg (by omega)]
    exact hca.sure k u hu
  · have e : (c.put x).ws.flatMap bvs = c.ws.flatMap bvs ++ bvs x := by simp [Cl.put, List.flatMap_append]
    have el : (c.put x).ws.length = c.ws.length + 1 := by simp [Cl.put]
    rw [e, el]
    exact own_mod (Mod.set w3 ⟨q, i * 257, none⟩ v') own3 (fun b hb e => hvq b hb e)

theorem S1_ok (base g q i : Nat) (vs : Nat → Value) (s : DS) (c : Cl) (p3 p4 p5 : Addr) (B : Option Addr) (cb : Nat) (x : Sec) (w : World) (h : Dk w base g q vs s) (hi : s.cs[i]? = some c)
    (h3 : w.cell? p3 = some (.pointer (some ⟨g, 0, none⟩))) (h4 : w.cell? p4 = some (.int .i64 i)) (h5 : w.cell? p5 = some (.slice B 256 cb)) (hB : Row w B (bvs x)) (hx : x.length = 256) (hn : c.ws.length ≤ 100000) (hbase : base ≤ w.heap.size)
    (hp3 : some p3.block ≠ (vs i).ownBlock) (hp4 : some p4.block ≠ (vs i).ownBlock) (hp5 : some p5.block ≠ (vs i).ownBlock) (hBo : ∀ b, B = some b → some b.block ≠ (vs i).ownBlock) :
    Calls Tryd.prog 44 #[.pointer (some p3), .pointer (some p4), .pointer (some p5)] w fun e w' => e = .returned (.tuple #[]) ∧
      ∃ v', Dk w' base g q (fun j => if j = i then v' else vs j) { s with cs := s.cs.set i (c.put x) } ∧ Mod (QS q (vs i)) w w' ∧ stayed w (vs i) v' := by
  refine enter ok Tryd.func44 rfl rfl rfl ?_
  have hil := (List.getElem?_eq_some_iff.1 hi).1
  have hca := h.each i c hi
  obtain ⟨A, n, hv, hcap, htop, hrow, _⟩ := own_slice hca.own
  have hwait := hca.wait
  rw [hv] at hwait
  have ex : (⟨q, 0, none⟩ : Addr).add ((i : Int).toNat * 257) = ⟨q, i * 257, none⟩ := by rw [Int.toNat_natCast, ad0]
  refine draw_ ok (.q 0 (.q 1 (.q 2 (.q 3 (.q 4 (.q 5 (.q 6 (.q 7 (.q 8 (.q 9 (.q 10 (.q 11 (.q 12 (.q 13 (.q 14 (.q 15 (.q 16 (.e 17 (.e 18 (.q 19 (.q 20 (.q 21 (.e 22 .done))))))))))))))))))))))) [22] (Mod (fun b => some b = (vs i).ownBlock) w) (by kernel_rfl) (by kernel_rfl) (by kernel_rfl) (by kernel_rfl) (by kernel_rfl) (New.drew w).mod ?_
  have hgo : ¬ some g = (vs i).ownBlock := fun e => (h.off i hil g e.symm).1 rfl
  have hqo : ¬ some q = (vs i).ownBlock := fun e => (h.off i hil q e.symm).2 rfl
  refine Exists.intro (some ⟨g, 0, none⟩) ?_
  refine And.intro (fun w'' hw => hw.cell h3 hp3) ?_
  refine Exists.intro (some ⟨q, 0, none⟩) (Exists.intro s.cs.length (Exists.intro s.cs.length ?_))
  refine And.intro (fun w'' hw => by rw [ad0]; exact hw.cell h.c0 hgo) ?_
  refine Exists.intro (i : Int) ?_
  refine And.intro (fun w'' hw => hw.cell h4 hp4) ?_
  refine Exists.intro (some ⟨g, 0, none⟩) ?_
  refine And.intro (fun w'' hw => hw.cell h3 hp3) ?_
  refine Exists.intro (some ⟨q, 0, none⟩) (Exists.intro s.cs.length (Exists.intro s.cs.length ?_))
  refine And.intro (fun w'' hw => by rw [ad0]; exact hw.cell h.c0 hgo) ?_
  refine Exists.intro (i : Int) ?_
  refine And.intro (fun w'' hw => hw.cell h4 hp4) ?_
  refine And.intro (by omega) (And.intro (by omega) ?_)
  refine Exists.intro A (Exists.intro c.ws.length (Exists.intro n ?_))
  refine And.intro (fun w'' hw => by rw [ex, add00, add00]; exact hw.cell hwait hqo) ?_
  refine Exists.intro B (Exists.intro 256 (Exists.intro cb ?_))
  refine And.intro (fun w'' hw => hw.cell h5 hp5) ?_
  refine Exists.intro (.pointer B) ?_
  refine And.intro (fun w'' _ => s2a_run ok rfl rfl rfl rfl (by decide) w'') ?_
  obtain ⟨b, rfl, _⟩ := hB 0 _ (List.getElem?_eq_getElem (by rw [bvs_length]; omega))
  refine loadNC_row (vs := bvs x) (fun k u hu w'' hw => ?_) (by rw [bvs_length]; exact hx) ?_
  · obtain ⟨b', hb', hc'⟩ := hB k u hu
    cases hb'
    exact hw.cell hc' (by rw [add_block]; exact hBo _ rfl)
  refine eff_build (xs := bvs x) rfl rfl rfl rfl rfl rfl rfl rfl ?_ ?_
  · rw [bvs_length]; exact hx
  have n1 : New w (w.drew.alloc (.cells (bvs x).toArray 68)) := (New.drew w).trans (New.alloc _ _)
  refine Exists.intro (Mod (fun b => some b = (vs i).ownBlock) w) (And.intro (fun _ h => h) (And.intro n1.mod ?_))
  refine eff_app rfl rfl (fun _ _ => rfl) ?_
  have hrowx : Row (w.drew.alloc (.cells (bvs x).toArray 68)) (some ⟨w.heap.size, 0, none⟩) (bvs x) := row_alloc w.drew (bvs x) _ _
  have hown := own_new n1 hca.own
  rw [hv] at hown
  refine append2_ ok rfl rfl rfl rfl hown rfl rfl hrowx (by rw [bvs_length, hx]; rfl) (bvs_one _) (by decide) rfl (by show (c.ws.length + 1) * 256 ≤ _; omega) (by omega) (by simp; omega) ?_
  intro A' c' w3 own3 mod3 st3
  have m3 : Mod (fun b => some b = (vs i).ownBlock) w w3 := by rw [hv]; exact Mod.trans n1.mod mod3 fun _ _ h => h
  have st : stayed w (vs i) (.slice A' (c.ws.length + 1) c') := by
    rw [hv]
    intro b hb
    rcases st3 b hb with e | e
    · exact .inl e
    · exact .inr (Nat.le_trans n1.size e)
  refine Exists.intro (Mod (fun b => some b = (vs i).ownBlock) w) (And.intro (fun _ h => h) (And.intro m3 ?_))
  obtain ⟨k1, k2, k3, k4⟩ := h.waits hi hx m3 own3 st
  refine And.intro (by omega) (And.intro (by omega) ?_)
  refine And.intro (by rw [ex, add00, add00]; exact k1) (And.intro (by rw [ex, add00, add00]; exact k2) ?_)
  refine ⟨rfl, .slice A' (c.ws.length + 1) c', ?_, ?_, st⟩
  · rw [ex, add00, add00]; exact k3
  · rw [ex, add00, add00]; exact k4
end Go.Proofs.YtgfdpojpcpgddaaDoor.Disk
