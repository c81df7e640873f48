/- Plain mathematics of the disk's states: acts, crashes. No program in sight. -/
import Derived.Test.YtgfdpojpcpgddaaDoorDWorks
import Derived.Test.YtgfdpojpcpgddaaDoorDOpen
namespace Go.Proofs.YtgfdpojpcpgddaaDoor.Disk
open Go Go.Proofs.YtgfdpojpcpgddaaDoor Go.Proofs.YtgfdpojpcpgddaaDoor.Eng Go.Proofs
set_option maxRecDepth 10000

/-- What an act of the statements does. -/
def act (s : DS) (a : ActV) : DS := if Base.among a.d 4 = 3 then barDS s else storeDS s (Base.among a.at_ 4) (rep a.b)
def actErr (s : DS) : Int := if s.can = true then 0 else 10
/-- What holds of the disks in the statements. -/
structure Inv (N : Nat) (s : DS) : Prop where
  len : s.cs.length = 4
  trip0 : -1 ≤ s.trip
  trip1 : s.trip ≤ 9223372036854775807
  moves0 : 0 ≤ s.moves
  moves1 : s.moves ≤ N
  ws : ∀ c ∈ s.cs, c.ws.length ≤ N
theorem Inv.fine {N : Nat} {s : DS} (h : Inv N s) (hN : N ≤ 1000) : s.fine := ⟨h.trip0, h.trip1, h.moves0, by have := h.moves1; omega⟩
theorem Inv.mono {N M : Nat} {s : DS} (h : Inv N s) (hN : N ≤ M) : Inv M s := ⟨h.len, h.trip0, h.trip1, h.moves0, by have := h.moves1; omega, fun c hc => Nat.le_trans (h.ws c hc) hN⟩
theorem Inv.mv {N : Nat} {s : DS} (h : Inv N s) : Inv (N + 1) s.mv := by
  have := h.trip0
  have := h.trip1
  have := h.moves0
  have := h.moves1
  unfold DS.mv
  split
  · exact ⟨h.len, by dsimp only; omega, by dsimp only; omega, by dsimp only; omega, by dsimp only; omega, fun c hc => Nat.le_succ_of_le (h.ws c hc)⟩
  · exact ⟨h.len, h.trip0, h.trip1, h.moves0, by dsimp only; omega, fun c hc => Nat.le_succ_of_le (h.ws c hc)⟩
theorem among4 (x : Int) : 0 ≤ Base.among x 4 ∧ Base.among x 4 < 4 := Base.among_lt (by omega)
theorem store_good (s : DS) (hl : s.cs.length = 4) (x : Int) (b : UInt8) : ¬ (Base.among x 4 < 0 ∨ (s.cs.length : Int) ≤ Base.among x 4 ∨ (rep b).length ≠ 256) := by
  have := among4 x
  rw [hl, rep_len]
  omega
theorem storeErr_eq (s : DS) (hl : s.cs.length = 4) (x : Int) : storeErr s (Base.among x 4) 256 = actErr s := by
  have := among4 x
  unfold storeErr actErr
  rw [if_neg (by rw [hl]; omega)]
theorem storeDS_eq (s : DS) (hl : s.cs.length = 4) (x : Int) (b : UInt8) : storeDS s (Base.among x 4) (rep b) = if s.can = true then { s.mv with cs := s.cs.set (Base.among x 4).toNat ((s.cs.getD (Base.among x 4).toNat ⟨[], []⟩).put (rep b)) } else s.mv := by
  unfold storeDS
  rw [if_neg (store_good s hl x b)]
theorem Inv.act {N : Nat} {s : DS} (h : Inv N s) (a : ActV) : Inv (N + 1) (act s a) := by
  have hm := h.mv
  unfold Disk.act
  split
  · unfold barDS
    split
    · refine ⟨by simp [h.len], hm.trip0, hm.trip1, hm.moves0, hm.moves1, fun c hc => ?_⟩
      obtain ⟨d, _, rfl⟩ := List.mem_map.1 hc
      exact Nat.zero_le _
    · exact hm
  · rw [storeDS_eq s h.len]
    split
    · refine ⟨by simp [h.len], hm.trip0, hm.trip1, hm.moves0, hm.moves1, fun c hc => ?_⟩
      rcases List.mem_or_eq_of_mem_set hc with hc | hc
      · exact Nat.le_succ_of_le (h.ws c hc)
      · rw [hc]
        have hlt : (Base.among a.at_ 4).toNat < s.cs.length := by have := among4 a.at_; rw [h.len]; omega
        have hg : s.cs.getD (Base.among a.at_ 4).toNat ⟨[], []⟩ = s.cs[(Base.among a.at_ 4).toNat] := by rw [List.getD_eq_getElem?_getD, List.getElem?_eq_getElem hlt]; rfl
        rw [hg]
        have := h.ws _ (List.getElem_mem hlt)
        simp [Cl.put]
        exact this
    · exact hm
def runs (s : DS) (l : List ActV) : DS := l.foldl act s
theorem runs_snoc (s : DS) (l : List ActV) (a : ActV) : runs s (l ++ [a]) = act (runs s l) a := by simp [runs]
theorem inv_fresh : Inv 0 (fresh 4) := ⟨by simp [fresh], by simp [fresh], by simp [fresh], by simp [fresh], by simp [fresh], by
  intro c hc
  simp [fresh] at hc
  rw [hc]
  simp⟩
theorem inv_runs (s : DS) (N : Nat) (h : Inv N s) : ∀ l : List ActV, Inv (N + l.length) (runs s l) := by
  intro l
  induction l generalizing s N with
  | nil => exact h
  | cons a r ih =>
    have := ih (act s a) (N + 1) (h.act a)
    rw [List.length_cons, show N + (r.length + 1) = N + 1 + r.length by omega]
    exact this
/-- A disk without a trip can always move. -/
def Free (s : DS) : Prop := s.trip = -1 ∧ s.gone = false
theorem Free.can {s : DS} (h : Free s) : s.can = true := by simp [DS.can, h.1, h.2]
theorem Free.mv {s : DS} (h : Free s) : Free s.mv := by
  unfold DS.mv
  rw [if_pos h.can]
  exact ⟨by show max (s.trip - 1) (-1) = -1; rw [h.1]; decide, h.2⟩
theorem Free.act {s : DS} (h : Free s) (a : ActV) : Free (act s a) := by
  have hm := h.mv
  unfold Disk.act barDS storeDS
  split
  · rw [if_pos h.can]
    exact hm
  · split
    · exact h
    · rw [if_pos h.can]
      exact hm
theorem free_runs (s : DS) (h : Free s) : ∀ l, Free (runs s l) := by
  intro l
  induction l generalizing s with
  | nil => exact h
  | cons a r ih => exact ih _ (h.act a)
theorem free_fresh (n : Nat) : Free (fresh n) := ⟨rfl, rfl⟩
end Go.Proofs.YtgfdpojpcpgddaaDoor.Disk
