/- The package disk: what a disk is, and how it lies in memory. -/
import Derived.Test.YtgfdpojpcpgddaaDoorTab
import Derived.Test.YtgfdpojpcpgddaaDoorDraw
import Derived.Test.YtgfdpojpcpgddaaDoorArr
import Derived.Test.YtgfdpojpcpgddaaDoorClose
namespace Go.Proofs.YtgfdpojpcpgddaaDoor.Disk
open Go Go.Proofs.YtgfdpojpcpgddaaDoor Go.Proofs.YtgfdpojpcpgddaaDoor.Eng Go.Proofs
set_option maxRecDepth 10000

abbrev Sec := List UInt8
/-- A sector: the values that wait, the sure one. -/
structure Cl where
  ws : List Sec
  sure : Sec
def Cl.now (c : Cl) : Sec := (c.ws[c.ws.length - 1]?).getD c.sure
def Cl.keep (c : Cl) (k : Nat) : Cl := ⟨[], if 0 < k then c.ws.getD (k - 1) [] else c.sure⟩
def Cl.put (c : Cl) (x : Sec) : Cl := ⟨c.ws ++ [x], c.sure⟩
def Cl.settle (c : Cl) : Cl := ⟨[], c.now⟩
structure Cl.ok (c : Cl) : Prop where
  sure : c.sure.length = 256
  ws : ∀ x ∈ c.ws, x.length = 256
structure DS where
  cs : List Cl
  moves : Int
  trip : Int
  gone : Bool
theorem Cl.now_mem (c : Cl) : (c.ws = [] ∧ c.now = c.sure) ∨ (0 < c.ws.length ∧ c.ws[c.ws.length - 1]? = some c.now) := by
  unfold Cl.now
  cases h : c.ws with
  | nil => exact .inl ⟨rfl, rfl⟩
  | cons x r =>
    refine .inr ⟨by simp, ?_⟩
    rw [List.getElem?_eq_getElem (by simp)]
    rfl
theorem Cl.ok.now {c : Cl} (h : c.ok) : c.now.length = 256 := by
  rcases c.now_mem with ⟨_, e⟩ | ⟨_, e⟩
  · rw [e]; exact h.sure
  · exact h.ws _ (List.mem_of_getElem? e)
theorem Cl.keep_all (c : Cl) : c.keep c.ws.length = c.settle := by
  unfold Cl.keep Cl.settle
  rcases c.now_mem with ⟨h, e⟩ | ⟨h, e⟩
  · rw [e, h]
    rfl
  · rw [if_pos h, List.getD_eq_getElem?_getD, e]
    rfl
theorem Cl.ok.keep {c : Cl} (h : c.ok) (k : Nat) (hk : k ≤ c.ws.length) : (c.keep k).ok := by
  refine ⟨?_, by simp [Cl.keep]⟩
  unfold Cl.keep
  by_cases h0 : 0 < k
  · simp only [if_pos h0]
    rw [List.getD_eq_getElem?_getD, List.getElem?_eq_getElem (by omega)]
    exact h.ws _ (List.getElem_mem _)
  · simp only [if_neg h0]
    exact h.sure
theorem Cl.ok.put {c : Cl} (h : c.ok) {x : Sec} (hx : x.length = 256) : (c.put x).ok := by
  refine ⟨h.sure, fun y hy => ?_⟩
  rcases List.mem_append.1 hy with hy | hy
  · exact h.ws y hy
  · rw [List.mem_singleton.1 hy]; exact hx

theorem flat_get : ∀ (ws : List Sec) (_ : ∀ x ∈ ws, x.length = 256) (j : Nat) (hj : j < ws.length) (k : Nat) (u : Value), (bvs ws[j])[k]? = some u → (ws.flatMap bvs)[j * 256 + k]? = some u
  | x :: r, h, 0, hj, k, u, hu => by
    have hk := (List.getElem?_eq_some_iff.1 hu).1
    rw [List.flatMap_cons, Nat.zero_mul, Nat.zero_add, List.getElem?_append_left (by simpa using hk)]
    exact hu
  | x :: r, h, j + 1, hj, k, u, hu => by
    have hl := h x List.mem_cons_self
    rw [List.flatMap_cons, List.getElem?_append_right (by rw [bvs_length, hl]; omega), bvs_length, hl]
    have e : (j + 1) * 256 + k - 256 = j * 256 + k := by omega
    rw [e]
    exact flat_get r (fun y hy => h y (List.mem_cons_of_mem _ hy)) j (by simpa using hj) k u (by simpa using hu)

/-- A sector in memory. -/
structure CA (w : World) (base q i : Nat) (v : Value) (c : Cl) : Prop where
  wait : w.cell? ⟨q, i * 257, none⟩ = some v
  sure : ∀ (k : Nat) u, (bvs c.sure)[k]? = some u → w.cell? ⟨q, i * 257 + 1 + k, none⟩ = some u
  own : w.ownsRow base 68 256 v c.ws.length (c.ws.flatMap bvs)
  ok : c.ok
/-- What belongs to a disk. -/
def DSet (g q n : Nat) (vs : Nat → Value) (b : Nat) : Prop := b = g ∨ b = q ∨ ∃ i, i < n ∧ (vs i).ownBlock = some b
/-- A disk in memory. -/
structure Dk (w : World) (base g q : Nat) (vs : Nat → Value) (s : DS) : Prop where
  blk : w.heap[g]? = some (.cells #[.slice (some ⟨q, 0, none⟩) s.cs.length s.cs.length, .int .i64 s.moves, .int .i64 s.trip, .bool s.gone] 65 (0, 0))
  arr : ∃ a, w.heap[q]? = some (.cells a 73 (0, 0)) ∧ a.size = s.cs.length * 257
  each : ∀ (i : Nat) c, s.cs[i]? = some c → CA w base q i (vs i) c
  off : ∀ i, i < s.cs.length → ∀ b, (vs i).ownBlock = some b → b ≠ g ∧ b ≠ q
  apart : ∀ i j, i < s.cs.length → j < s.cs.length → i ≠ j → ∀ b, (vs i).ownBlock = some b → (vs j).ownBlock ≠ some b
  gq : g ≠ q
  bg : base ≤ g
  bq : base ≤ q
section
variable {w w' : World} {base g q : Nat} {vs : Nat → Value} {s : DS}
theorem CA.mod {S : Nat → Prop} {i : Nat} {v : Value} {c : Cl} (h : CA w base q i v c) (m : Mod S w w') (hq : ¬ S q) (hv : ∀ b, v.ownBlock = some b → ¬ S b) : CA w' base q i v c :=
  ⟨m.cell h.wait hq, fun k u hu => m.cell (h.sure k u hu) hq, own_mod m h.own hv, h.ok⟩
theorem Dk.mod {S : Nat → Prop} (h : Dk w base g q vs s) (m : Mod S w w') (hS : ∀ b, DSet g q s.cs.length vs b → ¬ S b) : Dk w' base g q vs s := by
  have hq := hS q (.inr (.inl rfl))
  refine ⟨m.blk h.blk (hS g (.inl rfl)), ?_, fun i c hi => (h.each i c hi).mod m hq (fun b hb => hS b (.inr (.inr ⟨i, (List.getElem?_eq_some_iff.1 hi).1, hb⟩))), h.off, h.apart, h.gq, h.bg, h.bq⟩
  obtain ⟨a, ha, hs⟩ := h.arr
  exact ⟨a, m.blk ha hq, hs⟩
theorem Dk.new (h : Dk w base g q vs s) (m : New w w') : Dk w' base g q vs s := h.mod m fun _ _ h => h
theorem Dk.lt (h : Dk w base g q vs s) : ∀ b, DSet g q s.cs.length vs b → base ≤ b ∧ b < w.heap.size := by
  rintro b (rfl | rfl | ⟨i, hi, hb⟩)
  · exact ⟨h.bg, (Array.getElem?_eq_some_iff.1 h.blk).1⟩
  · obtain ⟨a, ha, _⟩ := h.arr
    exact ⟨h.bq, (Array.getElem?_eq_some_iff.1 ha).1⟩
  · exact (h.each i _ (List.getElem?_eq_getElem hi)).own.lt b hb
theorem Dk.c0 (h : Dk w base g q vs s) : w.cell? ⟨g, 0, none⟩ = some (.slice (some ⟨q, 0, none⟩) s.cs.length s.cs.length) := by
  rw [cell_of_row _ _ 0 _ _ _ h.blk]; rfl
theorem Dk.c1 (h : Dk w base g q vs s) : w.cell? ⟨g, 1, none⟩ = some (.int .i64 s.moves) := by
  rw [cell_of_row _ _ 1 _ _ _ h.blk]; rfl
theorem Dk.c2 (h : Dk w base g q vs s) : w.cell? ⟨g, 2, none⟩ = some (.int .i64 s.trip) := by
  rw [cell_of_row _ _ 2 _ _ _ h.blk]; rfl
theorem Dk.c3 (h : Dk w base g q vs s) : w.cell? ⟨g, 3, none⟩ = some (.bool s.gone) := by
  rw [cell_of_row _ _ 3 _ _ _ h.blk]; rfl
theorem Dk.fz (h : Dk w base g q vs s) (j : Nat) : w.frozen? ⟨g, j, none⟩ = false := frozen_of_row w g j _ _ h.blk
/-- One sector is another behind. -/
theorem Dk.update {S : Nat → Prop} {i : Nat} {c c' : Cl} {v' : Value} (h : Dk w base g q vs s) (hi : s.cs[i]? = some c) (m : Mod S w w') (hS : ∀ b, S b → b = q ∨ (vs i).ownBlock = some b)
    (hv' : ∀ b, v'.ownBlock = some b → (vs i).ownBlock = some b ∨ w.heap.size ≤ b) (harr : ∃ a, w'.heap[q]? = some (.cells a 73 (0, 0)) ∧ a.size = s.cs.length * 257)
    (hout : ∀ x, x < i * 257 ∨ i * 257 + 257 ≤ x → w'.cell? ⟨q, x, none⟩ = w.cell? ⟨q, x, none⟩) (hca : CA w' base q i v' c') : Dk w' base g q (fun j => if j = i then v' else vs j) { s with cs := s.cs.set i c' } := by
  have hil := (List.getElem?_eq_some_iff.1 hi).1
  have hgS : ¬ S g := fun hg => by
    rcases hS g hg with e | e
    · exact h.gq e
    · exact (h.off i hil g e).1 rfl
  have hlen : (s.cs.set i c').length = s.cs.length := List.length_set
  have hlt := h.lt
  refine ⟨?_, by rw [hlen]; exact harr, ?_, ?_, ?_, h.gq, h.bg, h.bq⟩
  · show w'.heap[g]? = some (.cells #[.slice (some ⟨q, 0, none⟩) (s.cs.set i c').length (s.cs.set i c').length, _, _, _] _ (0, 0))
    rw [hlen]
    exact m.blk h.blk hgS
  · intro j d hj
    by_cases hji : j = i
    · subst hji
      rw [List.getElem?_set_self (by exact hil)] at hj
      cases hj
      simp only [if_true]
      exact hca
    · rw [List.getElem?_set_ne (fun e => hji e.symm)] at hj
      have hjl := (List.getElem?_eq_some_iff.1 hj).1
      have hca := h.each j d hj
      have hds := hca.ok.sure
      simp only [if_neg hji]
      refine ⟨?_, ?_, ?_, hca.ok⟩
      · rw [hout _ (by omega)]
        exact hca.wait
      · intro k u hu
        have hk := (List.getElem?_eq_some_iff.1 hu).1
        rw [bvs_length, hds] at hk
        rw [hout _ (by omega)]
        exact hca.sure k u hu
      · refine own_mod m hca.own (fun b hb hs => ?_)
        rcases hS b hs with e | e
        · exact (h.off j hjl b hb).2 e
        · exact h.apart i j hil hjl (fun e => hji e.symm) b e hb
  · intro j hj b hb
    rw [hlen] at hj
    by_cases hji : j = i
    · simp only [if_pos hji] at hb
      rcases hv' b hb with e | e
      · exact h.off i hil b e
      · have h1 := (hlt g (.inl rfl)).2
        have h2 := (hlt q (.inr (.inl rfl))).2
        exact ⟨by omega, by omega⟩
    · simp only [if_neg hji] at hb
      exact h.off j hj b hb
  · intro j k hj hk hjk b hb
    rw [hlen] at hj hk
    by_cases hji : j = i
    · have hki : ¬ k = i := fun e => hjk (hji.trans e.symm)
      simp only [if_pos hji] at hb
      simp only [if_neg hki]
      intro hkb
      rcases hv' b hb with e | e
      · exact h.apart i k hil hk (fun e => hki e.symm) b e hkb
      · have := (hlt b (.inr (.inr ⟨k, hk, hkb⟩))).2
        omega
    · simp only [if_neg hji] at hb
      by_cases hki : k = i
      · simp only [if_pos hki]
        intro hkb
        rcases hv' b hkb with e | e
        · exact h.apart j i hj hil hji b hb e
        · have := (hlt b (.inr (.inr ⟨j, hj, hb⟩))).2
          omega
      · simp only [if_neg hki]
        exact h.apart j k hj hk hjk b hb
end
theorem ad1 (g i j : Nat) : (⟨g, i, none⟩ : Addr).add j = ⟨g, i + j, none⟩ := add_lit0 g i j
theorem ret_bool {b c : Bool} (h : b = c) : Ending.returned (.bool b) = .returned (.bool c) := by rw [h]
theorem bvs_one (bs : List UInt8) : ∀ u ∈ bvs bs, u.oneCell' = true := by
  intro u hu
  obtain ⟨b, _, rfl⟩ := List.mem_map.1 hu
  rfl
theorem bvs_set (bs : List UInt8) (k : Nat) (x : UInt8) : (bvs bs).set k (bv x) = bvs (bs.set k x) := by
  unfold bvs
  rw [List.map_set]
theorem bvs_append (a b : List UInt8) : bvs (a ++ b) = bvs a ++ bvs b := List.map_append ..
end Go.Proofs.YtgfdpojpcpgddaaDoor.Disk
