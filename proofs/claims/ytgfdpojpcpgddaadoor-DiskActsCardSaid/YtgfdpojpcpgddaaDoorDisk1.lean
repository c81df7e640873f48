/- The package disk, walked: a sector. -/
import Derived.Test.YtgfdpojpcpgddaaDoorDMem
namespace Go.Proofs.YtgfdpojpcpgddaaDoor.Disk
open Go Go.Proofs.YtgfdpojpcpgddaaDoor Go.Proofs.YtgfdpojpcpgddaaDoor.Eng Go.Proofs
set_option maxRecDepth 10000

theorem empty_ok (p : Addr) (A : Option Addr) (n c : Nat) (w : World) (h : w.cell? (p.add 0) = some (.slice A n c)) :
    Calls Tryd.prog 45 #[.pointer (some p)] w fun e w' => e = .returned (.bool (decide (n = 0))) ∧ w' = w := by
  refine enter ok Tryd.func45 rfl rfl rfl ?_
  refine Exists.intro A (Exists.intro n (Exists.intro c (And.intro h ⟨ret_bool ?_, rfl⟩)))
  show decide ((n : Int) = 0) = decide (n = 0)
  by_cases h0 : n = 0
  · subst h0; rfl
  · rw [decide_eq_false h0, decide_eq_false (by omega)]

theorem add00 (g j : Nat) : ((⟨g, j, none⟩ : Addr).add 0) = ⟨g, j, none⟩ := by rw [ad1]; rfl

theorem now_ok (base q i : Nat) (v : Value) (c : Cl) (w : World) (h : CA w base q i v c) :
    Calls Tryd.prog 38 #[.pointer (some ⟨q, i * 257, none⟩)] w fun e w' => e = .returned (.agg (bvs c.now).toArray) ∧ New w w' := by
  refine enter ok Tryd.func38 rfl rfl rfl ?_
  have n1 := New.alloc w (.cells (List.replicate 256 (Value.int .u8 0)).toArray 68)
  have h1 := h.mod n1 (fun h => h) (fun _ _ h => h)
  have hb := heap_alloc_new w (.cells (List.replicate 256 (Value.int .u8 0)).toArray 68)
  have hnl := h.ok.now
  obtain ⟨A, n, hv, hcap, htop, hrow, _⟩ := own_slice h1.own
  subst hv
  refine call_ (empty_ok ((⟨q, i * 257, none⟩ : Addr).add 0) A c.ws.length n (w.alloc (.cells (List.replicate 256 (Value.int .u8 0)).toArray 68)) (by rw [add00, add00]; exact h1.wait)) ?_
  rintro e w1 ⟨rfl, hw1⟩
  rw [← hw1] at h1 n1 hb hrow
  clear hw1
  refine ⟨_, rfl, ?_⟩
  have fin : ∀ w2 : World, w2.heap[w.heap.size]? = some (.cells (bvs c.now).toArray 68 (0, 0)) → Mod (fun k => k = w.heap.size) w1 w2 →
      (∀ (k : Nat) u, (bvs c.now)[k]? = some u → w2.cell? ((⟨w.heap.size, 0, none⟩ : Addr).add k) = some u) ∧ New w w2 := by
    intro w2 hb2 m2
    refine ⟨fun k u hu => ?_, Mod.trans n1 m2 fun b hb e => by omega⟩
    rw [ad1, Nat.zero_add, cell_of_row _ _ _ _ _ _ hb2]
    simpa using hu
  refine if_p (fun h0 => ?_) (fun h0 => ?_)
  · have hnow : c.now = c.sure := by
      rcases c.now_mem with ⟨_, e⟩ | ⟨hp, _⟩
      · exact e
      · omega
    rw [hnow] at fin hnl ⊢
    refine loadN_row (vs := bvs c.sure) (fun k u hu => by rw [ad1, ad1]; exact h1.sure k u hu) (by rw [bvs_length]; exact hnl) ?_
    refine And.intro (by show (bvs c.sure).toArray.size = 256; simp [bvs_length, hnl]) ?_
    refine storeN_all (vs := bvs c.sure) hb (by simp [bvs_length, hnl]) (bvs_one _) ?_
    intro w2 hb2 m2 hs2
    obtain ⟨f1, f2⟩ := fin w2 hb2 m2
    refine loadN_row (vs := bvs c.sure) f1 (by rw [bvs_length]; exact hnl) ?_
    exact ⟨rfl, f2⟩
  · rcases c.now_mem with ⟨e, _⟩ | ⟨hpos, hlast⟩
    · rw [e] at h0
      exact absurd rfl h0
    refine draw_ ok (.q 0 (.q 1 (.q 2 (.q 3 (.q 4 (.q 5 (.q 6 (.q 7 (.q 8 (.q 9 (.q 10 (.q 11 (.q 12 (.q 13 (.e 14 .done))))))))))))))) [14] (New w1) (by kernel_rfl) (by kernel_rfl) (by kernel_rfl) (by kernel_rfl) (by kernel_rfl) (New.drew _) ?_
    refine Exists.intro A (Exists.intro c.ws.length (Exists.intro n ?_))
    refine And.intro (fun w'' hw => by rw [add00, add00]; exact hw.cell h1.wait) ?_
    refine Exists.intro A (Exists.intro c.ws.length (Exists.intro n ?_))
    refine And.intro (fun w'' hw => by rw [add00, add00]; exact hw.cell h1.wait) ?_
    have esub : IntKind.i64.wrap ((c.ws.length : Int) - 1) = ((c.ws.length - 1 : Nat) : Int) := by rw [wrap_i64 (by omega) (by omega)]; omega
    refine And.intro (by rw [esub]; omega) (And.intro (by rw [esub]; omega) ?_)
    obtain ⟨hj, hjl⟩ := List.getElem?_eq_some_iff.1 hlast
    have hlw := h.ok.ws
    have hcell : ∀ (k : Nat) u, (bvs c.now)[k]? = some u → ∃ a, A = some a ∧ w1.cell? (a.add ((c.ws.length - 1) * 256 + k)) = some u := by
      intro k u hu
      rw [← hjl] at hu
      exact hrow _ _ (flat_get c.ws hlw (c.ws.length - 1) hj k u hu)
    obtain ⟨a, rfl, _⟩ := hcell 0 _ (List.getElem?_eq_getElem (by rw [bvs_length]; omega))
    refine loadNC_row (vs := bvs c.now) (fun k u hu w'' hw => ?_) (by rw [bvs_length]; exact hnl) ?_
    · obtain ⟨a', ha', hc'⟩ := hcell k u hu
      cases ha'
      rw [esub, Int.toNat_natCast, add_add_]
      exact hw.cell hc'
    have hb2 : w1.drew.heap[w.heap.size]? = _ := hb
    refine And.intro (by show (bvs c.now).toArray.size = 256; simp [bvs_length, hnl]) ?_
    refine storeN_all (vs := bvs c.now) hb2 (by simp [bvs_length, hnl]) (bvs_one _) ?_
    intro w2 hb2 m2 hs2
    obtain ⟨f1, f2⟩ := fin w2 hb2 (Mod.trans (New.drew w1).mod m2 fun _ _ h => h)
    refine loadN_row (vs := bvs c.now) f1 (by rw [bvs_length]; exact hnl) ?_
    exact ⟨rfl, f2⟩

theorem splice_get (l vs : List Value) (j x : Nat) (h : j + vs.length ≤ l.length) : (l.take j ++ vs ++ l.drop (j + vs.length))[x]? = if x < j then l[x]? else if x < j + vs.length then vs[x - j]? else l[x]? := by
  have hl : (l.take j).length = j := by rw [List.length_take]; omega
  by_cases h1 : x < j
  · rw [if_pos h1, List.append_assoc, List.getElem?_append_left (by omega), List.getElem?_take, if_pos h1]
  · rw [if_neg h1]
    by_cases h2 : x < j + vs.length
    · rw [if_pos h2, List.getElem?_append_left (by rw [List.length_append]; omega), List.getElem?_append_right (by omega), hl]
    · rw [if_neg h2, List.getElem?_append_right (by rw [List.length_append]; omega), List.length_append, hl, List.getElem?_drop]
      congr 1
      omega
/-- A disk's sector whose wait is struck and whose sure value is another. -/
theorem Dk.kept {w w2 : World} {base g q i : Nat} {vs : Nat → Value} {s : DS} {c c' : Cl} (h : Dk w base g q vs s) (hi : s.cs[i]? = some c) (m : Mod (fun b => b = q) w w2) (harr : ∃ a, w2.heap[q]? = some (.cells a 73 (0, 0)) ∧ a.size = s.cs.length * 257)
    (hout : ∀ x, x < i * 257 ∨ i * 257 + 257 ≤ x → w2.cell? ⟨q, x, none⟩ = w.cell? ⟨q, x, none⟩) (hsure : ∀ (k : Nat) u, (bvs c'.sure)[k]? = some u → w2.cell? ⟨q, i * 257 + 1 + k, none⟩ = some u) (hws : c'.ws = []) (hok : c'.ok) :
    (∃ u, w2.cell? ⟨q, i * 257, none⟩ = some u) ∧ w2.frozen? ⟨q, i * 257, none⟩ = false ∧
      Dk (w2.setCell ⟨q, i * 257, none⟩ (.slice none 0 0)) base g q (fun j => if j = i then .slice none 0 0 else vs j) { s with cs := s.cs.set i c' } ∧ Mod (fun b => b = q) w (w2.setCell ⟨q, i * 257, none⟩ (.slice none 0 0)) := by
  obtain ⟨a, ha, hs⟩ := harr
  have hil := (List.getElem?_eq_some_iff.1 hi).1
  have hm3 : Mod (fun b => b = q) w (w2.setCell ⟨q, i * 257, none⟩ (.slice none 0 0)) := Mod.trans m (Mod.set w2 ⟨q, i * 257, none⟩ (.slice none 0 0)) fun _ _ h => h
  have hb := heap_setCell_same w2 q (i * 257) a _ (.slice none 0 0) ha
  have hget : ∀ x, (w2.setCell ⟨q, i * 257, none⟩ (.slice none 0 0)).cell? ⟨q, x, none⟩ = if x = i * 257 then some (.slice none 0 0) else w2.cell? ⟨q, x, none⟩ := by
    intro x
    rw [cell_of_row _ _ _ _ _ _ hb, cell_of_row _ _ _ _ _ _ ha, Array.getElem?_setIfInBounds]
    by_cases hx : x = i * 257
    · subst hx
      rw [if_pos rfl, if_pos rfl, if_pos (by omega)]
    · rw [if_neg (fun e => hx e.symm), if_neg hx]
  refine ⟨⟨a[i * 257]'(by omega), by rw [cell_of_row _ _ _ _ _ _ ha, Array.getElem?_eq_getElem]⟩, frozen_of_row _ _ _ _ _ ha, ?_, hm3⟩
  refine h.update hi hm3 (fun b hb => .inl hb) (fun b hb => by simp [Value.ownBlock] at hb) ⟨_, hb, by simpa using hs⟩ ?_ ⟨?_, ?_, ?_, hok⟩
  · intro x hx
    rw [hget, if_neg (by omega)]
    exact hout x hx
  · rw [hget, if_pos rfl]
  · intro k u hu
    rw [hget, if_neg (by omega)]
    exact hsure k u hu
  · rw [hws]
    exact ⟨rfl, .inl ⟨rfl, rfl⟩⟩
theorem keep_ok (base g q i : Nat) (vs : Nat → Value) (s : DS) (c : Cl) (k : Int) (w : World) (h : Dk w base g q vs s) (hi : s.cs[i]? = some c) (hk0 : 0 ≤ k) (hk : k ≤ c.ws.length) :
    Calls Tryd.prog 41 #[.pointer (some ⟨q, i * 257, none⟩), .int .i64 k] w fun e w' => e = .returned (.tuple #[]) ∧ Dk w' base g q (fun j => if j = i then .slice none 0 0 else vs j) { s with cs := s.cs.set i (c.keep k.toNat) } ∧ Mod (fun b => b = q) w w' := by
  refine enter ok Tryd.func41 rfl rfl rfl ?_
  have hca := h.each i c hi
  have hil := (List.getElem?_eq_some_iff.1 hi).1
  obtain ⟨A, n, hv, hcap, htop, hrow, _⟩ := own_slice hca.own
  obtain ⟨a, ha, hs⟩ := h.arr
  have hlw := hca.ok.ws
  have hwait := hca.wait
  rw [hv] at hwait
  have hok := hca.ok.keep k.toNat (by omega)
  refine if_p (fun hpos => ?_) (fun hpos => ?_)
  · refine Exists.intro A (Exists.intro c.ws.length (Exists.intro n ?_))
    refine And.intro (by rw [add00, add00]; exact hwait) ?_
    have esub : IntKind.i64.wrap (k - 1) = ((k.toNat - 1 : Nat) : Int) := by rw [wrap_i64 (by omega) (by omega)]; omega
    refine And.intro (by rw [esub]; omega) (And.intro (by rw [esub]; omega) ?_)
    have hj : k.toNat - 1 < c.ws.length := by omega
    have hkeep : (c.keep k.toNat).sure = c.ws[k.toNat - 1] := by
      simp only [Cl.keep]
      rw [if_pos (by omega), List.getD_eq_getElem?_getD, List.getElem?_eq_getElem hj]
      rfl
    have hxl := hlw _ (List.getElem_mem hj)
    have hcell : ∀ (k' : Nat) u, (bvs c.ws[k.toNat - 1])[k']? = some u → ∃ a, A = some a ∧ w.cell? (a.add ((k.toNat - 1) * 256 + k')) = some u := fun k' u hu => hrow _ _ (flat_get c.ws hlw _ hj k' u hu)
    obtain ⟨b, rfl, _⟩ := hcell 0 _ (List.getElem?_eq_getElem (by rw [bvs_length]; omega))
    refine loadN_row (vs := bvs c.ws[k.toNat - 1]) (fun k' u hu => ?_) (by rw [bvs_length]; exact hxl) ?_
    · obtain ⟨b', hb', hc'⟩ := hcell k' u hu
      cases hb'
      rw [esub, Int.toNat_natCast, add_add_]
      exact hc'
    refine And.intro (by show (bvs c.ws[k.toNat - 1]).toArray.size = 256; simp [bvs_length, hxl]) ?_
    refine storeN_row (g := q) (j := i * 257 + 1) (vs := bvs c.ws[k.toNat - 1]) ha (by rw [bvs_length, hxl]; omega) (bvs_one _) ?_
    intro w2 hb2 m2 hs2
    have hget : ∀ x, w2.cell? ⟨q, x, none⟩ = if x < i * 257 + 1 then w.cell? ⟨q, x, none⟩ else if x < i * 257 + 1 + 256 then (bvs c.ws[k.toNat - 1])[x - (i * 257 + 1)]? else w.cell? ⟨q, x, none⟩ := by
      intro x
      have := splice_get a.toList (bvs c.ws[k.toNat - 1]) (i * 257 + 1) x (by rw [bvs_length, hxl]; simp; omega)
      rw [cell_of_row _ _ _ _ _ _ hb2, List.getElem?_toArray, this, bvs_length, hxl, cell_of_row _ _ _ _ _ _ ha]
      simp
    obtain ⟨k1, k2, k3, k4⟩ := h.kept hi m2 ⟨_, hb2, by simp [bvs_length, hxl]; omega⟩ (fun x hx => by
        rw [hget]
        by_cases h1 : x < i * 257 + 1
        · rw [if_pos h1]
        · rw [if_neg h1, if_neg (by omega)]) (c' := c.keep k.toNat) (fun k' u hu => by
        rw [hkeep] at hu
        have hk' := (List.getElem?_eq_some_iff.1 hu).1
        rw [bvs_length, hxl] at hk'
        rw [hget, if_neg (by omega), if_pos (by omega)]
        have : i * 257 + 1 + k' - (i * 257 + 1) = k' := by omega
        rw [this]
        exact hu) rfl hok
    refine And.intro (by rw [add00, add00]; exact k1) (And.intro (by rw [add00, add00]; exact k2) ?_)
    refine ⟨rfl, ?_, ?_⟩
    · rw [add00, add00]; exact k3
    · rw [add00, add00]; exact k4
  · have hk0' : k.toNat = 0 := by omega
    have hkeep : (c.keep k.toNat).sure = c.sure := by
      simp only [Cl.keep]
      rw [if_neg (by omega)]
    obtain ⟨k1, k2, k3, k4⟩ := h.kept hi (Mod.refl _ w) h.arr (fun x _ => rfl) (c' := c.keep k.toNat) (fun k' u hu => by
        rw [hkeep] at hu
        exact hca.sure k' u hu) rfl hok
    refine And.intro (by rw [add00, add00]; exact k1) (And.intro (by rw [add00, add00]; exact k2) ?_)
    refine ⟨rfl, ?_, ?_⟩
    · rw [add00, add00]; exact k3
    · rw [add00, add00]; exact k4
end Go.Proofs.YtgfdpojpcpgddaaDoor.Disk
