/- The document's disk, walked: a crash. -/
import Derived.Test.YtgfdpojpcpgddaaDoorDRef4
import Derived.Test.YtgfdpojpcpgddaaDoorDState2
namespace Go.Proofs.YtgfdpojpcpgddaaDoor.Disk
open Go Go.Proofs.YtgfdpojpcpgddaaDoor Go.Proofs.YtgfdpojpcpgddaaDoor.Eng Go.Proofs
set_option maxRecDepth 10000

theorem waitTo_step (cs : List Cl) (i : Nat) (hi : i < cs.length) : waitTo cs (i + 1) = waitTo cs i ++ (if 0 < cs[i].ws.length then [i] else []) := by
  have hg : cs.getD i ⟨[], []⟩ = cs[i] := by rw [List.getD_eq_getElem?_getD, List.getElem?_eq_getElem hi]; rfl
  unfold waitTo
  rw [List.range_succ, List.filter_append]
  congr 1
  simp only [List.filter_cons, List.filter_nil, hg]
  by_cases hp : 0 < cs[i].ws.length
  · rw [if_pos (decide_eq_true hp), if_pos hp]
  · rw [if_neg (by simpa using hp), if_neg hp]
theorem waitTo_front (cs : List Cl) (i : Nat) : ∀ k, ∃ r, waitTo cs (i + k) = waitTo cs i ++ r
  | 0 => ⟨[], by simp⟩
  | k + 1 => by
    obtain ⟨r, hr⟩ := waitTo_front cs i k
    refine ⟨r ++ ([i + k].filter fun j => decide (0 < (cs.getD j ⟨[], []⟩).ws.length)), ?_⟩
    rw [← List.append_assoc, ← hr]
    unfold waitTo
    rw [show i + (k + 1) = i + k + 1 from rfl, List.range_succ, List.filter_append]
theorem cached_at (cs : List Cl) (i : Nat) (hi : i < cs.length) (h : 0 < cs[i].ws.length) : (cached cs).getD (waitTo cs i).length 0 = i := by
  obtain ⟨r, hr⟩ := waitTo_front cs (i + 1) (cs.length - (i + 1))
  rw [show i + 1 + (cs.length - (i + 1)) = cs.length by omega, waitTo_step cs i hi, if_pos h] at hr
  unfold cached
  rw [hr]
  simp [List.getD_eq_getElem?_getD]
theorem waitTo_lt (cs : List Cl) (i : Nat) : ∀ j ∈ waitTo cs i, j < i := fun j hj => List.mem_range.1 (List.mem_filter.1 hj).1
theorem crashTo_same (cs : List Cl) (kept : List Int) (l : List Nat) (i : Nat) : ∀ j, j ≤ l.length → i ∉ l.take j → (crashTo cs kept l j)[i]? = cs[i]?
  | 0, _, _ => rfl
  | j + 1, hj, hi => by
    have hjl : j < l.length := by omega
    have hg : l.getD j 0 = l[j] := by rw [List.getD_eq_getElem?_getD, List.getElem?_eq_getElem hjl]; rfl
    rw [List.take_succ_eq_append_getElem hjl, List.mem_append, List.mem_singleton] at hi
    have ih := crashTo_same cs kept l i j (by omega) (fun h => hi (.inl h))
    unfold crashTo
    rw [hg]
    split
    · rw [List.getElem?_set_ne (fun e => hi (.inr e.symm)), ih]
    · exact ih
/-- The sectors behind the first few of a crash. -/
def crAt (cs : List Cl) (kept : List Int) (i : Nat) : List Cl := crashTo cs kept (cached cs) (waitTo cs i).length
theorem crAt_len (cs : List Cl) (kept : List Int) (i : Nat) : (crAt cs kept i).length = cs.length := crashTo_len _ _ _ _
theorem crAt_same (cs : List Cl) (kept : List Int) (i : Nat) (hi : i < cs.length) : (crAt cs kept i)[i]? = cs[i]? := by
  obtain ⟨r, hr⟩ := waitTo_front cs i (cs.length - i)
  rw [show i + (cs.length - i) = cs.length by omega] at hr
  unfold crAt
  refine crashTo_same cs kept _ i _ ?_ ?_
  · unfold cached; rw [hr, List.length_append]; omega
  · unfold cached
    rw [hr, List.take_append_of_le_length (Nat.le_refl _), List.take_length]
    intro h
    exact Nat.lt_irrefl _ (waitTo_lt cs i i h)
theorem crAt_skip (cs : List Cl) (kept : List Int) (i : Nat) (hi : i < cs.length) (h : ¬ 0 < cs[i].ws.length) : crAt cs kept (i + 1) = crAt cs kept i := by
  unfold crAt
  rw [waitTo_step cs i hi, if_neg h, List.append_nil]
theorem crAt_step (cs : List Cl) (kept : List Int) (i : Nat) (hi : i < cs.length) (h : 0 < cs[i].ws.length) : crAt cs kept (i + 1) = (crAt cs kept i).set i (cs[i].keep (kOf kept (waitTo cs i).length cs[i].ws.length)) := by
  have hs := crAt_same cs kept i hi
  rw [List.getElem?_eq_getElem hi] at hs
  have h1 : crAt cs kept (i + 1) = crashTo cs kept (cached cs) ((waitTo cs i).length + 1) := by unfold crAt; rw [waitTo_step cs i hi, if_pos h, List.length_append]; rfl
  rw [h1, crashTo, cached_at cs i hi h]
  unfold crAt at hs
  rw [hs]
  rfl
theorem vals_keep (c : Cl) (k : Nat) (h : k ≤ c.ws.length) : (vals c)[k]? = some (strV (c.keep k).sure) := by
  unfold vals Cl.keep
  rw [List.getElem?_map]
  cases k with
  | zero => rfl
  | succ k =>
    rw [List.getElem?_cons_succ, if_pos (Nat.succ_pos k), Nat.add_sub_cancel, List.getD_eq_getElem?_getD, List.getElem?_eq_getElem (by omega)]
    rfl

theorem RCrash_ok (base g q vc : Nat) (L : List Value) (s : DS) (K : Option Addr) (kn kc : Nat) (kept : List Int) (w : World) (h : Rk w base g q vc L s) (hn4 : s.cs.length ≤ 4096) (hl : ∀ c ∈ s.cs, c.ws.length ≤ 100000) (hk : Row w K (ivs kept)) (hkn : kn = kept.length) (hK : kept ≠ [] → ∀ a, K = some a → ¬ RW g q a.block) :
    Calls Tryd.prog 33 #[.pointer (some ⟨g, 0, none⟩), .slice K kn kc] w fun e w' => e = .returned (.tuple #[]) ∧
      ∃ L', Rk w' base g q vc L' (crashDS s kept) ∧ Mod (RW g q) w w' ∧ ∀ b, RSet g q L' b → RSet g q L b ∨ w.heap.size ≤ b := by
  refine enter ok Tryd.func33 rfl rfl rfl ?_
  have hKr : ∀ wl, Mod (RW g q) w wl → Row wl K (ivs kept) := fun wl ml => by
    by_cases he : kept = []
    · subst he; exact Row.nil _ _
    · exact hk.mod ml (hK he)
  have ini : s = { s with cs := crAt s.cs kept 0 } := rfl
  rw [ini] at h
  refine den_loop (σ := Nat × List Value) (fun t => [(0, .pointer (some ⟨g, 0, none⟩)), (1, .slice K kn kc), (4, .int .i64 (waitTo s.cs t.1).length), (5, .int .i64 t.1)])
    (fun m t wl => t.1 ≤ s.cs.length ∧ m = s.cs.length - t.1 ∧ Rk wl base g q vc t.2 { s with cs := crAt s.cs kept t.1 } ∧ Mod (RW g q) w wl ∧ ∀ b, RSet g q t.2 b → RSet g q L b ∨ w.heap.size ≤ b) s.cs.length (0, L) ⟨rfl, rfl, rfl, rfl, trivial⟩ ⟨Nat.zero_le _, rfl, h, Mod.refl _ _, fun b hb => .inl hb⟩ ?_
  rintro m ⟨i, L1⟩ wl fr0 ⟨hi, rfl, hk1, ml, fl⟩
  dsimp only at hi hk1 ml fl
  have hc0 := hk1.c0
  have hsl := crAt_len s.cs kept i
  rw [show ({ s with cs := crAt s.cs kept i } : DS).cs.length = s.cs.length from hsl] at hc0
  refine Exists.intro (some ⟨q, 0, none⟩) (Exists.intro s.cs.length (Exists.intro vc ?_))
  refine And.intro (by rw [ad0]; exact hc0) ?_
  refine if_p (fun hlt => ?_) (fun hge => ?_)
  rotate_left
  · replace hge : ¬ (i : Int) < s.cs.length := hge
    have hin : i = s.cs.length := by omega
    subst hin
    have e3 := (hk1.set 3 (.bool false) { s with cs := crAt s.cs kept s.cs.length, gone := false } rfl rfl)
    obtain ⟨h3, m3⟩ := e3
    have e4 := (h3.set 2 (.int .i64 (-1)) { s with cs := crAt s.cs kept s.cs.length, gone := false, trip := -1 } rfl rfl)
    obtain ⟨h4, m4⟩ := e4
    refine And.intro ⟨_, by rw [ad0]; exact hk1.c3⟩ (And.intro (by rw [ad0]; exact hk1.fz 3) ?_)
    refine And.intro ⟨_, by rw [ad0, ad0]; exact h3.c2⟩ (And.intro (by rw [ad0, ad0]; exact h3.fz 2) ?_)
    rw [ad0, ad0]
    exact ⟨rfl, L1, h4, Mod.trans (Mod.trans ml m3 fun _ _ e => .inl e) m4 fun _ _ e => .inl e, fl⟩
  replace hlt : (i : Int) < s.cs.length := hlt
  have hil : i < s.cs.length := by omega
  have hsame := crAt_same s.cs kept i hil
  have hskip := crAt_skip s.cs kept i hil
  have hstep := crAt_step s.cs kept i hil
  have hwst := waitTo_step s.cs i hil
  have hil' : i < ({ s with cs := crAt s.cs kept i } : DS).cs.length := by rw [hsl]; exact hil
  have hgi : ({ s with cs := crAt s.cs kept i } : DS).cs[i] = s.cs[i] := by
    have := hsame
    rw [List.getElem?_eq_getElem (by omega), List.getElem?_eq_getElem hil] at this
    exact Option.some.inj this
  obtain ⟨A, m, hcell, hrow, hm1, hm2, hok⟩ := hk1.sec i hil'
  rw [hgi] at hcell hrow hm1 hok
  have hwl := hl _ (List.getElem_mem hil)
  have hvl := vals_len s.cs[i]
  have hvk := vals_keep s.cs[i]
  have hwle := waitTo_le s.cs i
  generalize s.cs[i] = c at hcell hrow hm1 hok hwl hvl hvk hskip hstep hwst
  have ex : (⟨q, 0, none⟩ : Addr).add ((i : Int).toNat * 1) = ⟨q, i, none⟩ := by rw [Nat.mul_one, Int.toNat_natCast, ad0]
  refine Exists.intro (some ⟨q, 0, none⟩) (Exists.intro s.cs.length (Exists.intro vc ?_))
  refine And.intro (by rw [ad0]; exact hc0) ?_
  refine And.intro (by omega) (And.intro hlt ?_)
  refine Exists.intro A (Exists.intro (vals c).length (Exists.intro m ?_))
  refine And.intro (by rw [ex]; exact hcell) ?_
  refine if_p (fun h1 => ?_) (fun h1 => ?_)
  · replace h1 : ((vals c).length : Int) = 1 := h1
    have h0 : ¬ 0 < c.ws.length := by omega
    rw [if_neg h0, List.append_nil] at hwst
    have hsk := hskip h0
    refine ⟨s.cs.length - (i + 1), (i + 1, L1), by omega, ⟨rfl, rfl, ?_, ?_, trivial⟩, by show i + 1 ≤ _; omega, rfl, ?_, ml, fl⟩
    · show Value.int .i64 (waitTo s.cs i).length = .int .i64 (waitTo s.cs (i + 1)).length
      rw [hwst]
    · show Value.int .i64 (IntKind.i64.wrap _) = _
      rw [wrap_i64 (by omega) (by omega)]
      rfl
    · show Rk wl base g q vc L1 { s with cs := crAt s.cs kept (i + 1) }
      rw [hsk]
      exact hk1
  replace h1 : ¬ ((vals c).length : Int) = 1 := h1
  have h0 : 0 < c.ws.length := by omega
  rw [if_pos h0] at hwst
  have hst := hstep h0
  have hwst' : (waitTo s.cs (i + 1)).length = (waitTo s.cs i).length + 1 := by rw [hwst, List.length_append]; rfl
  generalize (waitTo s.cs i).length = nx at hst hwst' hwle
  have hkle := kOf_le kept nx c.ws.length
  refine skip_ (thenF_ (seq_assign ?_))
  refine seq_cut (σ := Unit) (fun _ => [(0, .pointer (some ⟨g, 0, none⟩)), (1, .slice K kn kc), (4, .int .i64 nx), (5, .int .i64 i), (6, .int .i64 (kOf kept nx c.ws.length))]) (fun _ w6 => New wl w6) ?_ ?_
  rotate_left
  · intro K' hK'
    refine if_p (fun h2 => ?_) (fun h2 => ?_)
    · replace h2 : (nx : Int) < kn := h2
      have hnx : nx < kept.length := by omega
      obtain ⟨a, rfl, hz⟩ := hKr wl ml nx (.int .i64 kept[nx]) (by simp [ivs, hnx])
      refine draw_ ok (.q 0 (.q 1 (.q 2 (.q 3 (.q 4 (.q 5 (.q 6 (.q 7 (.q 8 (.q 9 (.q 10 (.q 11 (.q 12 (.q 13 (.q 14 (.q 15 (.q 16 .done))))))))))))))))) [16] (New wl) (by kernel_rfl) (by kernel_rfl) (by kernel_rfl) (by kernel_rfl) (by kernel_rfl) (New.drew _) ?_
      refine And.intro (by omega) (And.intro h2 ?_)
      refine Exists.intro kept[nx] ?_
      refine And.intro (fun w'' hw => by rw [Nat.mul_one, Int.toNat_natCast]; exact hw.cell hz) ?_
      refine Exists.intro (some ⟨q, 0, none⟩) (Exists.intro s.cs.length (Exists.intro vc ?_))
      refine And.intro (fun w'' hw => by rw [ad0]; exact hw.cell hc0) ?_
      refine And.intro (by omega) (And.intro hlt ?_)
      refine Exists.intro A (Exists.intro (vals c).length (Exists.intro m ?_))
      refine And.intro (fun w'' hw => by rw [ex]; exact hw.cell hcell) ?_
      have e1 : IntKind.u64.wrap ((vals c).length : Int) = (c.ws.length : Int) + 1 := by rw [wrap_u64']; omega
      have e2 : IntKind.i64.wrap ((IntKind.u64.wrap kept[nx]).tmod (IntKind.u64.wrap ((vals c).length : Int))) = (kOf kept nx c.ws.length : Int) := by
        have h0 : 0 ≤ kept[nx] % 18446744073709551616 := Int.emod_nonneg _ (by omega)
        have h3 : 0 ≤ (kept[nx] % 18446744073709551616) % ((c.ws.length : Int) + 1) := Int.emod_nonneg _ (by omega)
        have h4 : (kept[nx] % 18446744073709551616) % ((c.ws.length : Int) + 1) < (c.ws.length : Int) + 1 := Int.emod_lt_of_pos _ (by omega)
        rw [e1, wrap_u64', Int.tmod_eq_emod_of_nonneg h0, wrap_i64 (by omega) (by omega)]
        unfold kOf
        rw [if_pos hnx, List.getD_eq_getElem?_getD, List.getElem?_eq_getElem hnx]
        show _ = (((kept[nx] % 18446744073709551616) % ((c.ws.length : Int) + 1)).toNat : Int)
        omega
      refine And.intro (by rw [e1]; omega) ?_
      refine hK' () _ _ ⟨rfl, rfl, rfl, rfl, ?_, trivial⟩ (New.drew _)
      show Value.int .i64 (IntKind.i64.wrap _) = _
      rw [e2]
    · replace h2 : ¬ (nx : Int) < kn := h2
      refine hK' () _ _ ⟨rfl, rfl, rfl, rfl, ?_, trivial⟩ (New.refl _)
      have : kOf kept nx c.ws.length = 0 := by unfold kOf; rw [if_neg (by omega)]
      rw [this]
      rfl
  rintro _ w6 fr6 n6
  have hk6 := hk1.new n6
  replace hcell := n6.cell hcell
  replace hc0 := n6.cell hc0
  replace hrow := hrow.new n6
  generalize kOf kept nx c.ws.length = k at hst hkle
  obtain ⟨a, rfl, hac⟩ := hrow _ _ (hvk k hkle)
  refine draw_ ok (.q 0 (.q 1 (.q 2 (.q 3 (.q 4 (.q 5 (.q 6 (.q 7 (.q 8 (.q 9 (.q 10 (.q 11 (.q 12 (.q 13 (.q 14 (.e 15 (.q 16 (.e 17 .done)))))))))))))))))) [17] (New w6) (by kernel_rfl) (by kernel_rfl) (by kernel_rfl) (by kernel_rfl) (by kernel_rfl) (New.drew _) ?_
  refine Exists.intro (some ⟨q, 0, none⟩) (Exists.intro s.cs.length (Exists.intro vc ?_))
  refine And.intro (fun w'' hw => by rw [ad0]; exact hw.cell hc0) ?_
  refine Exists.intro (some ⟨q, 0, none⟩) (Exists.intro s.cs.length (Exists.intro vc ?_))
  refine And.intro (fun w'' hw => by rw [ad0]; exact hw.cell hc0) ?_
  refine And.intro (by omega) (And.intro hlt ?_)
  refine Exists.intro (some a) (Exists.intro (vals c).length (Exists.intro m ?_))
  refine And.intro (fun w'' hw => by rw [ex]; exact hw.cell hcell) ?_
  refine And.intro (by omega) (And.intro (by omega) ?_)
  refine Exists.intro ⟨(c.keep k).sure.toArray⟩ ?_
  refine And.intro (fun w'' hw => by rw [Int.toNat_natCast, Nat.mul_one]; exact hw.cell hac) ?_
  refine eff_build (xs := [strV (c.keep k).sure]) rfl rfl rfl rfl rfl rfl rfl rfl rfl ?_
  have k3 := (New.drew w6).trans (New.alloc w6.drew (.cells #[strV (c.keep k).sure] 9))
  refine Exists.intro (New w6) (And.intro (fun _ h => h) (And.intro k3 ?_))
  refine And.intro (by omega) (And.intro hlt ?_)
  have hlt2 := hk6.lt
  have hz : (w6.drew.alloc (.cells #[strV (c.keep k).sure] 9)).heap.size = w6.heap.size + 1 := by simp
  have hsv : SV (w6.drew.alloc (.cells #[strV (c.keep k).sure] 9)) g q (.slice (some ⟨w6.drew.heap.size, 0, none⟩) 1 1) (c.keep k) :=
    ⟨_, _, rfl, row_alloc w6.drew [strV (c.keep k).sure] _ _, Nat.le_refl _, by decide, fun a ha => by cases ha; exact ⟨by show w6.heap.size ≠ g; omega, by show w6.heap.size ≠ q; omega, by rw [hz]; exact Nat.lt_succ_self _⟩, hok.keep _ hkle⟩
  obtain ⟨p1, p2, p3, p4⟩ := (hk6.new k3).put i hil' _ _ hsv
  refine And.intro (by rw [ex]; exact p1) (And.intro (by rw [ex]; exact p2) ?_)
  have hw1 := ml.size
  have hw2 := n6.size
  refine ⟨s.cs.length - (i + 1), (i + 1, L1.set i (.slice (some ⟨w6.drew.heap.size, 0, none⟩) 1 1)), by omega, ⟨rfl, rfl, ?_, ?_, trivial⟩, by show i + 1 ≤ _; omega, rfl, ?_, ?_, ?_⟩
  · show Value.int .i64 (IntKind.i64.wrap _) = .int .i64 (waitTo s.cs (i + 1)).length
    rw [hwst', wrap_i64 (by omega) (by omega)]
    rfl
  · show Value.int .i64 (IntKind.i64.wrap _) = _
    rw [wrap_i64 (by omega) (by omega)]
    rfl
  · rw [ex]
    show Rk _ base g q vc _ { s with cs := crAt s.cs kept (i + 1) }
    rw [hst]
    exact p3
  · rw [ex]
    exact Mod.trans (Mod.trans (Mod.trans ml n6 fun b _ e => e.elim) k3 fun b _ e => e.elim) p4 fun b _ e => .inr e
  · intro b hb
    rcases RSet.set (n := w.heap.size) hb (fun b hb => by cases hb; show w.heap.size ≤ w6.heap.size; omega) with h | h
    · exact fl b h
    · exact .inr h
end Go.Proofs.YtgfdpojpcpgddaaDoor.Disk
