/- Plain mathematics of the disk's states: what a crash leaves. No program in sight. -/
import Derived.Test.YtgfdpojpcpgddaaDoorDState
namespace Go.Proofs.YtgfdpojpcpgddaaDoor.Disk
open Go Go.Proofs.YtgfdpojpcpgddaaDoor Go.Proofs.YtgfdpojpcpgddaaDoor.Eng Go.Proofs
set_option maxRecDepth 10000

def Idle (s : DS) : Prop := ∀ c ∈ s.cs, c.ws = []
def sures (s : DS) : List Sec := s.cs.map Cl.sure
theorem now_idle {c : Cl} (h : c.ws = []) : c.now = c.sure := by
  rcases c.now_mem with ⟨_, e⟩ | ⟨e, _⟩
  · exact e
  · rw [h] at e
    exact absurd e (Nat.lt_irrefl _)
theorem dump_idle {s : DS} (h : Idle s) : dump s.cs = (sures s).flatten := by
  unfold dump sures Idle at *
  generalize s.cs = cs at h
  induction cs with
  | nil => rfl
  | cons c r ih =>
    rw [List.flatMap_cons, List.map_cons, List.flatten_cons, ih (fun d hd => h d (List.mem_cons_of_mem _ hd)), now_idle (h c List.mem_cons_self)]
theorem cached_mem {cs : List Cl} {i : Nat} (hi : i < cs.length) (h : cs[i].ws ≠ []) : i ∈ cached cs := by
  refine List.mem_filter.2 ⟨List.mem_range.2 hi, ?_⟩
  have hg : cs.getD i ⟨[], []⟩ = cs[i] := by rw [List.getD_eq_getElem?_getD, List.getElem?_eq_getElem hi]; rfl
  rw [hg]
  exact decide_eq_true (List.length_pos_iff.2 h)
theorem cached_idle {s : DS} (h : Idle s) : cached s.cs = [] := by
  unfold cached waitTo
  rw [List.filter_eq_nil_iff]
  intro j hj
  have hjl := List.mem_range.1 hj
  have hg : s.cs.getD j ⟨[], []⟩ = s.cs[j] := by rw [List.getD_eq_getElem?_getD, List.getElem?_eq_getElem hjl]; rfl
  rw [hg, h _ (List.getElem_mem hjl)]
  simp
theorem crash_idle {s : DS} (h : Idle s) (kept : List Int) : crashDS s kept = { s with trip := -1, gone := false } := by
  unfold crashDS
  rw [cached_idle h]
  rfl
theorem kOf_nil (j n : Nat) : kOf [] j n = 0 := by
  unfold kOf
  rw [if_neg (by simp)]
theorem keep_zero {c : Cl} (h : c.ws = []) : c.keep 0 = c := by
  cases c
  simp only at h
  subst h
  rfl
theorem crashTo_some (cs : List Cl) (kept : List Int) (l : List Nat) : ∀ (j i : Nat) (c : Cl), cs[i]? = some c →
    ∃ d, (crashTo cs kept l j)[i]? = some d ∧ (d = c ∨ ∃ k, k ≤ c.ws.length ∧ d = c.keep k) ∧ (kept = [] → d = c ∨ d = c.keep 0) ∧ (i ∈ l.take j → d.ws = [])
  | 0, i, c, h => ⟨c, h, .inl rfl, fun _ => .inl rfl, fun h => by simp at h⟩
  | j + 1, i, c, h => by
    obtain ⟨d, hd, h1, h2, h3⟩ := crashTo_some cs kept l j i c h
    have mem : i ∈ l.take (j + 1) → i ∈ l.take j ∨ l.getD j 0 = i := by
      intro hm
      by_cases hj : j < l.length
      · rw [List.take_succ_eq_append_getElem hj, List.mem_append, List.mem_singleton] at hm
        rcases hm with hm | hm
        · exact .inl hm
        · right
          rw [List.getD_eq_getElem?_getD, List.getElem?_eq_getElem hj]
          exact hm.symm
      · rw [List.take_of_length_le (by omega)] at hm
        left
        rw [List.take_of_length_le (by omega)]
        exact hm
    unfold crashTo
    split
    · rename_i e he
      by_cases hp : l.getD j 0 = i
      · rw [hp] at he
        rw [hd] at he
        cases he
        have hil := (List.getElem?_eq_some_iff.1 hd).1
        refine ⟨d.keep (kOf kept j d.ws.length), by rw [hp, List.getElem?_set_self hil], ?_, ?_, fun _ => rfl⟩
        · rcases h1 with rfl | ⟨k, hk, rfl⟩
          · exact .inr ⟨_, kOf_le _ _ _, rfl⟩
          · refine .inr ⟨k, hk, ?_⟩
            have hz : kOf kept j (c.keep k).ws.length = 0 := Nat.le_zero.1 (kOf_le _ _ _)
            rw [hz]
            exact keep_zero rfl
        · intro hk
          subst hk
          rw [kOf_nil]
          rcases h2 rfl with rfl | rfl
          · exact .inr rfl
          · exact .inr (keep_zero rfl)
      · refine ⟨d, by rw [List.getElem?_set_ne hp]; exact hd, h1, h2, fun hm => ?_⟩
        rcases mem hm with hm | hm
        · exact h3 hm
        · exact absurd hm hp
    · rename_i he
      refine ⟨d, hd, h1, h2, fun hm => ?_⟩
      rcases mem hm with hm | hm
      · exact h3 hm
      · rw [hm, hd] at he
        cases he
/-- What a crash leaves of a sector. -/
theorem crash_cell (s : DS) (kept : List Int) (i : Nat) (c : Cl) (h : s.cs[i]? = some c) : ∃ d, (crashDS s kept).cs[i]? = some d ∧ d.ws = [] ∧ (d.sure = c.sure ∨ d.sure ∈ c.ws) ∧ (kept = [] → d.sure = c.sure) := by
  obtain ⟨d, hd, h1, h2, h3⟩ := crashTo_some s.cs kept (cached s.cs) (cached s.cs).length i c h
  have hil := (List.getElem?_eq_some_iff.1 h).1
  have hc : s.cs[i] = c := (List.getElem?_eq_some_iff.1 h).2
  refine ⟨d, hd, ?_, ?_, ?_⟩
  · by_cases hw : c.ws = []
    · rcases h1 with rfl | ⟨k, _, rfl⟩
      · exact hw
      · rfl
    · exact h3 (by rw [List.take_length]; exact cached_mem hil (by rw [hc]; exact hw))
  · rcases h1 with rfl | ⟨k, hk, rfl⟩
    · exact .inl rfl
    · unfold Cl.keep
      by_cases h0 : 0 < k
      · right
        simp only [if_pos h0]
        rw [List.getD_eq_getElem?_getD, List.getElem?_eq_getElem (by omega)]
        exact List.getElem_mem _
      · left
        simp only [if_neg h0]
  · intro hk
    rcases h2 hk with rfl | rfl
    · rfl
    · rfl
theorem crash_len (s : DS) (kept : List Int) : (crashDS s kept).cs.length = s.cs.length := crashTo_len _ _ _ _
theorem crash_Idle (s : DS) (kept : List Int) : Idle (crashDS s kept) := by
  intro d hd
  obtain ⟨i, hi, rfl⟩ := List.getElem_of_mem hd
  have hi' : i < s.cs.length := by rw [← crash_len s kept]; exact hi
  obtain ⟨d', hd', hw, _⟩ := crash_cell s kept i _ (List.getElem?_eq_getElem hi')
  rw [List.getElem?_eq_getElem hi] at hd'
  cases hd'
  exact hw
theorem crash_nil_sures (s : DS) : sures (crashDS s []) = sures s := by
  unfold sures
  apply List.ext_getElem?
  intro i
  rw [List.getElem?_map, List.getElem?_map]
  by_cases hi : i < s.cs.length
  · obtain ⟨d, hd, _, _, hs⟩ := crash_cell s [] i _ (List.getElem?_eq_getElem hi)
    rw [hd, List.getElem?_eq_getElem hi]
    exact congrArg some (hs rfl)
  · rw [List.getElem?_eq_none (by rw [crash_len]; omega), List.getElem?_eq_none (by omega)]
theorem crash_free (s : DS) (kept : List Int) : Free (crashDS s kept) := ⟨rfl, rfl⟩
theorem bar_cs {s : DS} (h : Free s) : (barDS s).cs = s.cs.map Cl.settle := by unfold barDS; rw [if_pos h.can]
theorem bar_Idle {s : DS} (h : Free s) : Idle (barDS s) := by
  intro c hc
  rw [bar_cs h] at hc
  obtain ⟨d, _, rfl⟩ := List.mem_map.1 hc
  rfl
theorem bar_free {s : DS} (h : Free s) : Free (barDS s) := by
  unfold barDS
  rw [if_pos h.can]
  exact h.mv
theorem bar_inv {N : Nat} {s : DS} (h : Inv N s) : Inv (N + 1) (barDS s) := by
  have := h.mv
  unfold barDS
  split
  · refine ⟨by simp [h.len], this.trip0, this.trip1, this.moves0, this.moves1, fun c hc => ?_⟩
    obtain ⟨d, _, rfl⟩ := List.mem_map.1 hc
    exact Nat.zero_le _
  · exact this
theorem crash_inv {N : Nat} {s : DS} (h : Inv N s) (kept : List Int) : Inv N (crashDS s kept) :=
  ⟨by rw [crash_len]; exact h.len, by show (-1 : Int) ≤ -1; decide, by show (-1 : Int) ≤ _; decide, h.moves0, h.moves1, fun c hc => by rw [crash_Idle s kept c hc]; exact Nat.zero_le _⟩
/-- Stores alone. -/
def st (s : DS) (a : ActV) : DS := storeDS s (Base.among a.at_ 4) (rep a.b)
def stores (s : DS) (l : List ActV) : DS := l.foldl st s
theorem stores_snoc (s : DS) (l : List ActV) (a : ActV) : stores s (l ++ [a]) = st (stores s l) a := by simp [stores]
theorem st_inv {N : Nat} {s : DS} (h : Inv N s) (a : ActV) : Inv (N + 1) (st s a) := by
  have := h.act ⟨0, a.at_, 0, a.b, false, none, 0, 0, []⟩
  unfold act at this
  rw [if_neg (show ¬ Base.among 0 4 = 3 by decide)] at this
  exact this
theorem stores_inv {N : Nat} {s : DS} (h : Inv N s) : ∀ l, Inv (N + l.length) (stores s l) := by
  intro l
  induction l generalizing s N with
  | nil => exact h
  | cons a r ih =>
    have := ih (st_inv h a)
    rw [List.length_cons, show N + (r.length + 1) = N + 1 + r.length by omega]
    exact this
theorem st_sures {N : Nat} {s : DS} (h : Inv N s) (a : ActV) : sures (st s a) = sures s := by
  unfold st
  rw [storeDS_eq s h.len]
  split
  · unfold sures
    dsimp only
    apply List.ext_getElem?
    intro i
    rw [List.getElem?_map, List.getElem?_map, List.getElem?_set]
    split
    · rename_i he
      subst he
      by_cases hi : (Base.among a.at_ 4).toNat < s.cs.length
      · rw [if_pos hi, List.getElem?_eq_getElem hi, List.getD_eq_getElem?_getD, List.getElem?_eq_getElem hi]
        rfl
      · rw [if_neg hi, List.getElem?_eq_none (by omega)]
    · rfl
  · unfold sures
    rw [DS.mv_cs]
theorem stores_sures {N : Nat} {s : DS} (h : Inv N s) : ∀ l, sures (stores s l) = sures s := by
  intro l
  induction l generalizing s N with
  | nil => rfl
  | cons a r ih => exact (ih (st_inv h a)).trans (st_sures h a)
/-- What waits behind stores was stored. -/
theorem st_ws {N : Nat} {s : DS} (h : Inv N s) (a : ActV) (i : Nat) (c : Cl) (hc : (st s a).cs[i]? = some c) (x : Sec) (hx : x ∈ c.ws) : (∃ d, s.cs[i]? = some d ∧ x ∈ d.ws) ∨ (Base.among a.at_ 4 = i ∧ x = rep a.b) := by
  unfold st at hc
  rw [storeDS_eq s h.len] at hc
  split at hc
  · dsimp only at hc
    rw [List.getElem?_set] at hc
    split at hc
    · rename_i he
      split at hc
      · rename_i hl
        cases hc
        rcases List.mem_append.1 hx with hx | hx
        · left
          rw [← he]
          rw [List.getD_eq_getElem?_getD, List.getElem?_eq_getElem hl] at hx
          exact ⟨_, List.getElem?_eq_getElem hl, hx⟩
        · right
          have := among4 a.at_
          exact ⟨by omega, List.mem_singleton.1 hx⟩
      · cases hc
    · exact .inl ⟨c, hc, hx⟩
  · rw [DS.mv_cs] at hc
    exact .inl ⟨c, hc, hx⟩
theorem stores_ws {N : Nat} {s : DS} (h : Inv N s) (h0 : Idle s) (l : List ActV) : ∀ (i : Nat) (c : Cl), (stores s l).cs[i]? = some c → ∀ x ∈ c.ws, ∃ a ∈ l, Base.among a.at_ 4 = i ∧ x = rep a.b := by
  have gen : ∀ (l : List ActV) (N : Nat) (s : DS), Inv N s → ∀ (i : Nat) (c : Cl), (stores s l).cs[i]? = some c → ∀ x ∈ c.ws, (∃ d, s.cs[i]? = some d ∧ x ∈ d.ws) ∨ ∃ a ∈ l, Base.among a.at_ 4 = i ∧ x = rep a.b := by
    intro l
    induction l with
    | nil => intro N s _ i c hc x hx; exact .inl ⟨c, hc, hx⟩
    | cons a r ih =>
      intro N s hs i c hc x hx
      rcases ih (N + 1) (st s a) (st_inv hs a) i c hc x hx with ⟨d, hd, hxd⟩ | ⟨b, hb, h1⟩
      · rcases st_ws hs a i d hd x hxd with h | h
        · exact .inl h
        · exact .inr ⟨a, List.mem_cons_self, h⟩
      · exact .inr ⟨b, List.mem_cons_of_mem _ hb, h1⟩
  intro i c hc x hx
  rcases gen l N s h i c hc x hx with ⟨d, hd, hxd⟩ | h
  · rw [h0 d (List.mem_of_getElem? hd)] at hxd
    simp at hxd
  · exact h
end Go.Proofs.YtgfdpojpcpgddaaDoor.Disk
