/- The package disk, walked: made, counted, a move, a value stored. -/
import Derived.Test.YtgfdpojpcpgddaaDoorDisk1
namespace Go.Proofs.YtgfdpojpcpgddaaDoor.Disk
open Go Go.Proofs.YtgfdpojpcpgddaaDoor Go.Proofs.YtgfdpojpcpgddaaDoor.Eng Go.Proofs
set_option maxRecDepth 10000

theorem ad0 (g j : Nat) : (⟨g, 0, none⟩ : Addr).add j = ⟨g, j, none⟩ := by rw [ad1, Nat.zero_add]
def DS.can (s : DS) : Bool := !(s.gone || decide (s.trip = 0))
def DS.mv (s : DS) : DS := if s.can = true then { s with trip := max (s.trip - 1) (-1), moves := s.moves + 1 } else { s with gone := true }
structure DS.fine (s : DS) : Prop where
  trip0 : -1 ≤ s.trip
  trip1 : s.trip ≤ 9223372036854775807
  moves0 : 0 ≤ s.moves
  moves1 : s.moves < 9223372036854775807
section
variable {w : World} {base g q : Nat} {vs : Nat → Value} {s : DS}
theorem Dk.set (h : Dk w base g q vs s) (j : Nat) (v : Value) (s' : DS) (hcs : s'.cs = s.cs) (hb : (#[.slice (some ⟨q, 0, none⟩) s.cs.length s.cs.length, .int .i64 s.moves, .int .i64 s.trip, .bool s.gone] : Array Value).setIfInBounds j v = #[.slice (some ⟨q, 0, none⟩) s.cs.length s.cs.length, .int .i64 s'.moves, .int .i64 s'.trip, .bool s'.gone]) :
    Dk (w.setCell ⟨g, j, none⟩ v) base g q vs s' ∧ Mod (fun b => b = g) w (w.setCell ⟨g, j, none⟩ v) := by
  have m := Mod.set w ⟨g, j, none⟩ v
  have hbl := heap_setCell_same w g j _ _ v h.blk
  rw [hb] at hbl
  have hgq := h.gq
  refine ⟨⟨by rw [hcs]; exact hbl, ?_, ?_, ?_, ?_, h.gq, h.bg, h.bq⟩, m⟩
  · obtain ⟨a, ha, hs⟩ := h.arr
    exact ⟨a, m.blk ha (fun e => hgq e.symm), by rw [hcs]; exact hs⟩
  · intro i c hi
    rw [hcs] at hi
    have hil := (List.getElem?_eq_some_iff.1 hi).1
    exact (h.each i c hi).mod m (fun e => hgq e.symm) (fun b hb e => (h.off i hil b hb).1 e)
  · rw [hcs]; exact h.off
  · rw [hcs]; exact h.apart
end

theorem Count_ok (base g q : Nat) (vs : Nat → Value) (s : DS) (w : World) (h : Dk w base g q vs s) : Calls Tryd.prog 25 #[.pointer (some ⟨g, 0, none⟩)] w fun e w' => e = .returned (.int .i64 s.cs.length) ∧ w' = w := by
  refine enter ok Tryd.func25 rfl rfl rfl ?_
  exact Exists.intro (some ⟨q, 0, none⟩) (Exists.intro s.cs.length (Exists.intro s.cs.length (And.intro (by rw [ad0]; exact h.c0) ⟨rfl, rfl⟩)))
theorem Moves_ok (base g q : Nat) (vs : Nat → Value) (s : DS) (w : World) (h : Dk w base g q vs s) : Calls Tryd.prog 34 #[.pointer (some ⟨g, 0, none⟩)] w fun e w' => e = .returned (.int .i64 s.moves) ∧ w' = w := by
  refine enter ok Tryd.func34 rfl rfl rfl ?_
  exact Exists.intro s.moves (And.intro (by rw [ad0]; exact h.c1) ⟨rfl, rfl⟩)

/-- A disk that is new. -/
def fresh (n : Nat) : DS := ⟨List.replicate n ⟨[], List.replicate 256 0⟩, 0, -1, false⟩
theorem zcell : (⟨.struct #[], 0, [], 0⟩ : TI) = ⟨.struct #[], 0, [], 0⟩ := rfl
theorem bvs_zero (n : Nat) : bvs (List.replicate n 0) = List.replicate n (.int .u8 0) := by
  unfold bvs
  rw [List.map_replicate]
  rfl
theorem Make_ok (n : Nat) (w : World) (hn0 : 1 ≤ n) (hn : n ≤ 4096) :
    Calls Tryd.prog 23 #[.int .i64 n] w fun e w' => ∃ g q, e = .returned (.tuple #[.pointer (some ⟨g, 0, none⟩), .int .i64 0]) ∧ Dk w' w.heap.size g q (fun _ => .slice none 0 0) (fresh n) ∧ New w w' := by
  refine enter ok Tryd.func23 rfl rfl rfl ?_
  refine if_p (fun h => absurd h (by omega)) (fun _ => ?_)
  refine if_p (fun h => absurd h (by omega)) (fun _ => ?_)
  refine make_g ok rfl rfl rfl rfl (n := n) rfl rfl (by show 280 * n ≤ _; omega) (by omega) rfl (by decide) ?_
  intro w1 arr hb hs hz n1
  have nb := New.alloc w1 (.cells #[.slice (some ⟨w.heap.size, 0, none⟩) n n, .int .i64 0, .int .i64 (-1), .bool false] 65)
  have hlt := (Array.getElem?_eq_some_iff.1 hb).1
  have hlen : (fresh n).cs.length = n := by simp [fresh]
  suffices key : Dk (w1.alloc (.cells #[.slice (some ⟨w.heap.size, 0, none⟩) n n, .int .i64 0, .int .i64 (-1), .bool false] 65)) w.heap.size w1.heap.size w.heap.size (fun _ => .slice none 0 0) (fresh n) from ⟨w1.heap.size, w.heap.size, rfl, key, n1.trans nb⟩
  refine ⟨?_, ?_, ?_, ?_, ?_, by omega, n1.size, Nat.le_refl _⟩
  · rw [hlen]
    exact heap_alloc_new w1 _
  · rw [hlen]
    exact ⟨arr, nb.blk hb, hs⟩
  · intro i c hi
    have hil := (List.getElem?_eq_some_iff.1 hi).1
    rw [hlen] at hil
    have hc : c = ⟨[], List.replicate 256 0⟩ := by
      simp only [fresh] at hi
      rw [List.getElem?_replicate, if_pos hil] at hi
      exact (Option.some.inj hi).symm
    subst hc
    have hcell : ∀ j, j < 257 → (w1.alloc (.cells #[.slice (some ⟨w.heap.size, 0, none⟩) n n, .int .i64 0, .int .i64 (-1), .bool false] 65)).cell? ⟨w.heap.size, i * 257 + j, none⟩ = (Value.slice none 0 0 :: List.replicate 256 (Value.int .u8 0))[j]? := by
      intro j hj
      rw [cell_of_row _ _ _ _ _ _ (nb.blk hb), hz _ (by show i * 257 + j < n * 257; omega)]
      show (_ : List Value)[(i * 257 + j) % 257]? = _
      have : (i * 257 + j) % 257 = j := by omega
      rw [this]
      rfl
    refine ⟨by have := hcell 0 (by omega); simpa using this, ?_, ⟨rfl, .inl ⟨rfl, rfl⟩⟩, ⟨List.length_replicate, by simp⟩⟩
    intro k u hu
    have hk := (List.getElem?_eq_some_iff.1 hu).1
    rw [bvs_length, List.length_replicate] at hk
    rw [bvs_zero] at hu
    have := hcell (1 + k) (by omega)
    rw [← Nat.add_assoc] at this
    rw [this, Nat.add_comm 1 k, List.getElem?_cons_succ]
    exact hu
  · intro i _ b hb
    simp [Value.ownBlock] at hb
  · intro i j _ _ _ b hb
    simp [Value.ownBlock] at hb
end Go.Proofs.YtgfdpojpcpgddaaDoor.Disk
