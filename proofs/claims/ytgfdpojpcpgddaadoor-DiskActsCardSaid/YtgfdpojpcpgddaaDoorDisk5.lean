/- The package disk, walked: everything made sure, the trip, what waits. -/
import Derived.Test.YtgfdpojpcpgddaaDoorDisk4
namespace Go.Proofs.YtgfdpojpcpgddaaDoor.Disk
open Go Go.Proofs.YtgfdpojpcpgddaaDoor Go.Proofs.YtgfdpojpcpgddaaDoor.Eng Go.Proofs
set_option maxRecDepth 10000

/-- The first few sectors settled. -/
def settled (cs : List Cl) (i : Nat) : List Cl := (cs.take i).map Cl.settle ++ cs.drop i
theorem settled_len (cs : List Cl) (i : Nat) : (settled cs i).length = cs.length := by simp [settled]; omega
theorem settled_get (cs : List Cl) (i : Nat) (h : i < cs.length) : (settled cs i)[i]? = some cs[i] := by
  have hl : ((cs.take i).map Cl.settle).length = i := by simp; omega
  unfold settled
  rw [List.getElem?_append_right (by omega), hl, Nat.sub_self, List.getElem?_drop, Nat.add_zero, List.getElem?_eq_getElem h]
theorem settled_set (cs : List Cl) (i : Nat) (h : i < cs.length) : (settled cs i).set i cs[i].settle = settled cs (i + 1) := by
  have hl : ((cs.take i).map Cl.settle).length = i := by simp; omega
  unfold settled
  rw [List.set_append_right _ _ (by omega), hl, Nat.sub_self, List.drop_eq_getElem_cons h, List.set_cons_zero, List.take_succ_eq_append_getElem h, List.map_append, List.append_assoc]
  rfl
theorem settled_all (cs : List Cl) : settled cs cs.length = cs.map Cl.settle := by simp [settled]
def vsB (vs : Nat → Value) (i : Nat) : Nat → Value := fun j => if j < i then .slice none 0 0 else vs j
theorem vsB_step (vs : Nat → Value) (i : Nat) : (fun j => if j = i then Value.slice none 0 0 else vsB vs i j) = vsB vs (i + 1) := by
  funext j
  unfold vsB
  by_cases h1 : j = i
  · rw [if_pos h1, if_pos (by omega)]
  · rw [if_neg h1]
    by_cases h2 : j < i
    · rw [if_pos h2, if_pos (by omega)]
    · rw [if_neg h2, if_neg (by omega)]
theorem DSet_vsB {g q n : Nat} {vs : Nat → Value} {i b : Nat} (h : DSet g q n (vsB vs i) b) : DSet g q n vs b := by
  rcases h with h | h | ⟨j, hj, h⟩
  · exact .inl h
  · exact .inr (.inl h)
  · unfold vsB at h
    split at h
    · simp [Value.ownBlock] at h
    · exact .inr (.inr ⟨j, hj, h⟩)
theorem B1_ok (base g q : Nat) (vs : Nat → Value) (s : DS) (p3 : Addr) (w : World) (h : Dk w base g q vs s) (h3 : w.cell? p3 = some (.pointer (some ⟨g, 0, none⟩))) (hp : p3.block ≠ q) (hl : ∀ c ∈ s.cs, c.ws.length ≤ 100000) (hn4 : s.cs.length ≤ 4096) :
    Calls Tryd.prog 43 #[.pointer (some p3)] w fun e w' => e = .returned (.tuple #[]) ∧ Dk w' base g q (vsB vs s.cs.length) { s with cs := s.cs.map Cl.settle } ∧ Mod (fun b => b = q) w w' := by
  refine enter ok Tryd.func43 rfl rfl rfl ?_
  refine Exists.intro (some ⟨g, 0, none⟩) ?_
  refine And.intro h3 ?_
  refine Exists.intro (some ⟨q, 0, none⟩) (Exists.intro s.cs.length (Exists.intro s.cs.length ?_))
  refine And.intro (by rw [ad0]; exact h.c0) ?_
  refine den_loop (σ := Nat) (fun i => [(0, .pointer (some p3)), (6, .int .i64 s.cs.length), (7, .int .i64 i)])
    (fun m i wl => i ≤ s.cs.length ∧ m = s.cs.length - i ∧ Dk wl base g q (vsB vs i) { s with cs := settled s.cs i } ∧ Mod (fun b => b = q) w wl) s.cs.length 0 ⟨rfl, rfl, rfl, trivial⟩ ⟨Nat.zero_le _, rfl, ?_, Mod.refl _ _⟩ ?_
  · have e1 : vsB vs 0 = vs := by funext j; simp [vsB]
    have e2 : settled s.cs 0 = s.cs := by simp [settled]
    rw [e1, e2]
    exact h
  rintro m i wl fr1 ⟨hi, rfl, hd, hm⟩
  have hsl := settled_len s.cs i
  refine if_p (fun hlt => ?_) (fun hge => ?_)
  · have hil : i < s.cs.length := by omega
    have hget := settled_get s.cs i hil
    have hca := hd.each i _ hget
    obtain ⟨A, n, hv, hcap, htop, _, _⟩ := own_slice hca.own
    have hwait := hca.wait
    rw [hv] at hwait
    have ex : (⟨q, 0, none⟩ : Addr).add ((i : Int).toNat * 257) = ⟨q, i * 257, none⟩ := by rw [Int.toNat_natCast, ad0]
    have hc0 := hd.c0
    simp only [hsl] at hc0
    refine draw_ ok (.q 0 (.q 1 (.q 2 (.q 3 (.q 4 (.q 5 (.q 6 (.q 7 (.q 8 (.q 9 (.q 10 (.q 11 (.q 12 (.q 13 (.q 14 (.q 15 (.e 16 .done))))))))))))))))) [16] (New wl) (by kernel_rfl) (by kernel_rfl) (by kernel_rfl) (by kernel_rfl) (by kernel_rfl) (New.drew wl) ?_
    refine Exists.intro (some ⟨g, 0, none⟩) ?_
    refine And.intro (fun w'' hw => hw.cell (hm.cell h3 hp)) ?_
    refine Exists.intro (some ⟨q, 0, none⟩) (Exists.intro s.cs.length (Exists.intro s.cs.length ?_))
    refine And.intro (fun w'' hw => by rw [ad0]; exact hw.cell hc0) ?_
    refine And.intro (by omega) (And.intro (by omega) ?_)
    refine Exists.intro (some ⟨g, 0, none⟩) ?_
    refine And.intro (fun w'' hw => hw.cell (hm.cell h3 hp)) ?_
    refine Exists.intro (some ⟨q, 0, none⟩) (Exists.intro s.cs.length (Exists.intro s.cs.length ?_))
    refine And.intro (fun w'' hw => by rw [ad0]; exact hw.cell hc0) ?_
    refine And.intro (by omega) (And.intro (by omega) ?_)
    refine Exists.intro A (Exists.intro s.cs[i].ws.length (Exists.intro n ?_))
    refine And.intro (fun w'' hw => by rw [ex, add00, add00]; exact hw.cell hwait) ?_
    rw [← ex] at hwait
    have hk := keep_ok base g q i (vsB vs i) { s with cs := settled s.cs i } s.cs[i] s.cs[i].ws.length wl.drew (hd.new (New.drew _)) hget (by omega) (by omega)
    rw [← ex] at hk
    refine call_ hk ?_
    rintro e w2 ⟨rfl, hd2, m2⟩
    refine ⟨_, rfl, ?_⟩
    rw [Int.toNat_natCast, Cl.keep_all, vsB_step] at hd2
    have es := settled_set s.cs i hil
    refine ⟨s.cs.length - (i + 1), i + 1, by omega, ⟨rfl, rfl, ?_, trivial⟩, by omega, rfl, ?_, Mod.trans (hm.new (New.drew _)) m2 fun _ _ h => h⟩
    · show Value.int .i64 (IntKind.i64.wrap _) = _
      rw [wrap_i64 (by omega) (by omega)]
      rfl
    · rw [← es]
      exact hd2
  · have : i = s.cs.length := by omega
    subst this
    rw [settled_all] at hd
    exact ⟨rfl, hd, hm⟩

def barDS (s : DS) : DS := if s.can = true then { s.mv with cs := s.cs.map Cl.settle } else s.mv
theorem Barrier_ok (base g q : Nat) (vs : Nat → Value) (s : DS) (w : World) (h : Dk w base g q vs s) (hf : s.fine) (hn0 : 0 < s.cs.length) (hn4 : s.cs.length ≤ 4096) (hl : ∀ c ∈ s.cs, c.ws.length ≤ 100000) :
    Calls Tryd.prog 17 #[.pointer (some ⟨g, 0, none⟩)] w fun e w' => e = .returned (.int .i64 (if s.can = true then 0 else 10)) ∧
      ∃ vs', Dk w' base g q vs' (barDS s) ∧ Mod (DSet g q s.cs.length vs) w w' ∧ ∀ b, DSet g q s.cs.length vs' b → DSet g q s.cs.length vs b := by
  refine enter ok Tryd.func17 rfl rfl rfl ?_
  have n1 : New w (w.alloc (.cells #[.pointer (some ⟨g, 0, none⟩)] 25)) := New.alloc _ _
  have c3 : (w.alloc (.cells #[.pointer (some ⟨g, 0, none⟩)] 25)).cell? ⟨w.heap.size, 0, none⟩ = some (.pointer (some ⟨g, 0, none⟩)) := by rw [cell_of_row _ _ 0 _ _ _ (heap_alloc_new w _)]; rfl
  have hlt := h.lt
  refine Exists.intro (some ⟨g, 0, none⟩) ?_
  refine And.intro c3 ?_
  refine call_ (Count_ok base g q vs s (w.alloc (.cells #[.pointer (some ⟨g, 0, none⟩)] 25)) (h.new n1)) ?_
  rintro e w1 ⟨rfl, hw1⟩
  rw [← hw1] at c3 n1
  clear hw1
  refine ⟨_, rfl, ?_⟩
  refine if_p (fun h0 => absurd h0 (by omega)) (fun _ => ?_)
  refine Exists.intro (some ⟨g, 0, none⟩) ?_
  refine And.intro c3 ?_
  refine call_ (moveB_ok base g q vs s _ w1 (h.new n1) hf (R := fun w' => Dk w' base g q (vsB vs s.cs.length) { s.mv with cs := s.cs.map Cl.settle } ∧ Mod (fun b => b = g ∨ b = q) w1 w') ?_) ?_
  · intro hcan w2 h2 m2
    have e := B1_ok base g q vs s.mv ⟨w.heap.size, 0, none⟩ w2 h2 (m2.cell c3 (fun e => Nat.ne_of_gt (hlt g (.inl rfl)).2 e)) (fun e => Nat.ne_of_gt (hlt q (.inr (.inl rfl))).2 e) (by rw [DS.mv_cs]; exact hl) (by rw [DS.mv_cs]; exact hn4)
    rw [DS.mv_cs] at e
    refine Calls.mono e ?_
    rintro e w4 ⟨rfl, hd, m4⟩
    exact ⟨rfl, hd, Mod.trans (m2.mono fun b _ e => .inl e) m4 (fun b _ e => .inr e)⟩
  rintro e w5 ⟨rfl, r1, r2⟩
  refine ⟨_, rfl, rfl, ?_⟩
  unfold barDS
  by_cases hcan : s.can = true
  · obtain ⟨hd, m5⟩ := r1 hcan
    rw [if_pos hcan]
    refine ⟨_, hd, Mod.trans n1.mod m5 (fun b hb e => ?_), fun b hb => DSet_vsB hb⟩
    rcases e with e | e
    · exact .inl e
    · exact .inr (.inl e)
  · obtain ⟨hd, m5⟩ := r2 (by simpa using hcan)
    rw [if_neg hcan]
    exact ⟨vs, hd, Mod.trans n1.mod m5 (fun b hb e => .inl e), fun b hb => hb⟩
theorem Trip_ok (base g q : Nat) (vs : Nat → Value) (s : DS) (n : Int) (w : World) (h : Dk w base g q vs s) (hn0 : 0 < s.cs.length) :
    Calls Tryd.prog 30 #[.pointer (some ⟨g, 0, none⟩), .int .i64 n] w fun e w' => e = .returned (.int .i64 0) ∧ Dk w' base g q vs { s with trip := max n (-1) } ∧ Mod (fun b => b = g) w w' := by
  refine enter ok Tryd.func30 rfl rfl rfl ?_
  refine call_ (Count_ok base g q vs s w h) ?_
  rintro e w1 ⟨rfl, rfl⟩
  refine ⟨_, rfl, ?_⟩
  refine if_p (fun h0 => absurd h0 (by omega)) (fun _ => ?_)
  have et : (if n < -1 then (-1 : Int) else n) = max n (-1) := by split <;> omega
  obtain ⟨h1, m1⟩ := h.set 2 (.int .i64 (max n (-1))) { s with trip := max n (-1) } rfl rfl
  refine And.intro ⟨_, by rw [ad0]; exact h.c2⟩ (And.intro (by rw [ad0]; exact h.fz 2) ?_)
  refine ⟨rfl, ?_, ?_⟩
  · rw [ad0, et]; exact h1
  · rw [ad0, et]; exact m1

/-- Which sectors have something that waits, of the first few. -/
def waitTo (cs : List Cl) (i : Nat) : List Nat := (List.range i).filter fun j => decide (0 < (cs.getD j ⟨[], []⟩).ws.length)
def cached (cs : List Cl) : List Nat := waitTo cs cs.length
def nvs (l : List Nat) : List Value := ivs (l.map fun (j : Nat) => (j : Int))
theorem waitTo_le (cs : List Cl) (i : Nat) : (waitTo cs i).length ≤ i := by
  unfold waitTo
  have := List.length_filter_le (fun j => decide (0 < (cs.getD j ⟨[], []⟩).ws.length)) (List.range i)
  simpa using this
theorem ivs_one (zs : List Int) : ∀ u ∈ ivs zs, u.oneCell' = true := by
  intro u hu
  obtain ⟨z, _, rfl⟩ := List.mem_map.1 hu
  rfl
theorem Cached_ok (base g q : Nat) (vs : Nat → Value) (s : DS) (w : World) (h : Dk w base g q vs s) (hn4 : s.cs.length ≤ 4096) :
    Calls Tryd.prog 21 #[.pointer (some ⟨g, 0, none⟩)] w fun e w' => ∃ v, e = .returned v ∧ w'.ownsRow w.heap.size 3 1 v (cached s.cs).length (nvs (cached s.cs)) ∧ New w w' := by
  refine enter ok Tryd.func21 rfl rfl rfl ?_
  refine call_ (Count_ok base g q vs s w h) ?_
  rintro e w1 ⟨rfl, rfl⟩
  refine ⟨_, rfl, ?_⟩
  refine den_loop (σ := Nat × Option Addr × Nat) (fun t => [(0, .pointer (some ⟨g, 0, none⟩)), (3, .slice t.2.1 (waitTo s.cs t.1).length t.2.2), (6, .int .i64 s.cs.length), (7, .int .i64 t.1)])
    (fun m t wl => t.1 ≤ s.cs.length ∧ m = s.cs.length - t.1 ∧ wl.ownsRow w1.heap.size 3 1 (.slice t.2.1 (waitTo s.cs t.1).length t.2.2) (waitTo s.cs t.1).length (nvs (waitTo s.cs t.1)) ∧ New w1 wl) s.cs.length (0, none, 0) ⟨rfl, rfl, rfl, rfl, trivial⟩ ⟨Nat.zero_le _, rfl, ⟨rfl, .inl ⟨rfl, rfl⟩⟩, New.refl _⟩ ?_
  rintro m ⟨i, A, c⟩ wl fr1 ⟨hi, rfl, hown, hm⟩
  dsimp only at hi hown hm
  have hd := h.new hm
  have hwl := waitTo_le s.cs i
  refine if_p (fun hlt => ?_) (fun hge => ?_)
  · replace hlt : (i : Int) < s.cs.length := hlt
    have hil : i < s.cs.length := by omega
    have hca := hd.each i _ (List.getElem?_eq_getElem hil)
    obtain ⟨A2, n, hv, hcap, htop, _, _⟩ := own_slice hca.own
    have hwait := hca.wait
    rw [hv] at hwait
    have ex : (⟨q, 0, none⟩ : Addr).add ((i : Int).toNat * 257) = ⟨q, i * 257, none⟩ := by rw [Int.toNat_natCast, ad0]
    refine Exists.intro (some ⟨q, 0, none⟩) (Exists.intro s.cs.length (Exists.intro s.cs.length ?_))
    refine And.intro (by rw [ad0]; exact hd.c0) ?_
    refine And.intro (by omega) (And.intro hlt ?_)
    refine call_ (empty_ok (((⟨q, 0, none⟩ : Addr).add ((i : Int).toNat * 257)).add 0) A2 s.cs[i].ws.length n wl (by rw [ex, add00, add00]; exact hwait)) ?_
    rintro e w2 ⟨rfl, rfl⟩
    refine ⟨_, rfl, ?_⟩
    have hg : s.cs.getD i ⟨[], []⟩ = s.cs[i] := by rw [List.getD_eq_getElem?_getD, List.getElem?_eq_getElem hil]; rfl
    have hstep : waitTo s.cs (i + 1) = waitTo s.cs i ++ (if 0 < s.cs[i].ws.length then [i] else []) := by
      unfold waitTo
      rw [List.range_succ, List.filter_append]
      congr 1
      simp only [List.filter_cons, List.filter_nil, hg]
      by_cases hp : 0 < s.cs[i].ws.length
      · rw [if_pos (decide_eq_true hp), if_pos hp]
      · rw [if_neg (by simpa using hp), if_neg hp]
    refine if_n (fun hne => ?_) (fun he => ?_)
    · rw [if_pos (by omega)] at hstep
      have a1 := New.alloc w2 (.cells #[.int .i64 (i : Int)] 3)
      have hrow : Row (w2.alloc (.cells #[.int .i64 (i : Int)] 3)) (some ⟨w2.heap.size, 0, none⟩) (ivs [(i : Int)]) := row_alloc w2 [.int .i64 (i : Int)] _ _
      have hs2 := hm.size
      refine append2_ ok rfl rfl rfl rfl (own_new a1 hown) rfl rfl hrow rfl (ivs_one _) (by decide) rfl (by show ((waitTo s.cs i).length + 1) * 8 ≤ _; omega) (by omega) (by simp; omega) ?_
      intro A3 c3 w3 own3 mod3 st3
      have n3 := Mod.trans (hm.trans a1) mod3 (fun b hb e => by have := (hown.lt b e.symm).1; omega)
      have el : (waitTo s.cs (i + 1)).length = (waitTo s.cs i).length + 1 := by rw [hstep]; simp
      have en : nvs (waitTo s.cs (i + 1)) = nvs (waitTo s.cs i) ++ ivs [(i : Int)] := by rw [hstep]; simp [nvs, ivs]
      refine ⟨s.cs.length - (i + 1), (i + 1, A3, c3), by omega, ⟨rfl, ?_, rfl, ?_, trivial⟩, by show i + 1 ≤ _; omega, rfl, ?_, n3⟩
      · show Value.slice A3 ((waitTo s.cs i).length + 1) c3 = .slice A3 (waitTo s.cs (i + 1)).length c3
        rw [el]
      · show Value.int .i64 (IntKind.i64.wrap _) = _
        rw [wrap_i64 (by omega) (by omega)]
        rfl
      · show w3.ownsRow w1.heap.size 3 1 (.slice A3 (waitTo s.cs (i + 1)).length c3) (waitTo s.cs (i + 1)).length (nvs (waitTo s.cs (i + 1)))
        rw [el, en]
        exact own3
    · rw [if_neg (by omega), List.append_nil] at hstep
      refine ⟨s.cs.length - (i + 1), (i + 1, A, c), by omega, ⟨rfl, ?_, rfl, ?_, trivial⟩, by show i + 1 ≤ _; omega, rfl, ?_, hm⟩
      · show Value.slice A (waitTo s.cs i).length c = .slice A (waitTo s.cs (i + 1)).length c
        rw [hstep]
      · show Value.int .i64 (IntKind.i64.wrap _) = _
        rw [wrap_i64 (by omega) (by omega)]
        rfl
      · show w2.ownsRow w1.heap.size 3 1 (.slice A (waitTo s.cs (i + 1)).length c) (waitTo s.cs (i + 1)).length (nvs (waitTo s.cs (i + 1)))
        rw [hstep]
        exact hown
  · replace hge : ¬ (i : Int) < s.cs.length := hge
    have : i = s.cs.length := by omega
    subst this
    exact ⟨_, rfl, hown, hm⟩
end Go.Proofs.YtgfdpojpcpgddaaDoor.Disk
