/- The statement DiskActs, walked. -/
import Derived.Test.YtgfdpojpcpgddaaDoorDActs1
import Derived.Test.YtgfdpojpcpgddaaDoorDVoid
namespace Go.Proofs.YtgfdpojpcpgddaaDoor.Disk
open Go Go.Proofs.YtgfdpojpcpgddaaDoor Go.Proofs.YtgfdpojpcpgddaaDoor.Eng Go.Proofs
set_option maxRecDepth 10000

theorem own_base {w : World} {b b' : Nat} {e : TypeId} {sz n : Nat} {v : Value} {xs : List Value} (h : w.ownsRow b' e sz v n xs) (hb : b ≤ b') : w.ownsRow b e sz v n xs :=
  ⟨h.1, h.2.imp id fun ⟨g, cap, cur, e, hg, r⟩ => ⟨g, cap, cur, e, Nat.le_trans hb hg, r⟩⟩
theorem Rk.base {w : World} {b b' g q vc : Nat} {L : List Value} {s : DS} (h : Rk w b' g q vc L s) (hb : b ≤ b') : Rk w b g q vc L s := ⟨h.blk, own_base h.row hb, h.each, h.gq, Nat.le_trans hb h.bg⟩
def runs7 (s : DS) (l : List ActV) : DS := l.foldl act7 s
theorem runs7_snoc (s : DS) (l : List ActV) (a : ActV) : runs7 s (l ++ [a]) = act7 (runs7 s l) a := by simp [runs7]
theorem inv7_runs (s : DS) (n N : Nat) (h : Inv7 n N s) : ∀ l : List ActV, (∀ a ∈ l, a.n ≤ 9223372036854775807) → Inv7 n (N + l.length) (runs7 s l) := by
  intro l
  induction l generalizing s N with
  | nil => exact fun _ => h
  | cons a r ih =>
    intro hl
    have := ih (act7 s a) (N + 1) (h.act a (hl a List.mem_cons_self)) (fun b hb => hl b (List.mem_cons_of_mem _ hb))
    rw [List.length_cons, show N + (r.length + 1) = N + 1 + r.length by omega]
    exact this

theorem DiskActs_ok (N0 : Int) (D : Option Addr) (n0 c0 : Nat) (acts : List ActV) (w : World) (hn0 : n0 = acts.length) (hc0 : n0 ≤ c0) (hm0 : c0 ≤ 9223372036854775807) (hd0 : Rows2 w D 6 (acts.map ActV.cells)) (hao : ∀ a ∈ acts, ActOk w a ∧ a.kn * 8 ≤ 140737488351232) :
    Calls Tryd.prog 6 #[.int .i64 N0, .slice D n0 c0] w fun e w' => e = .returned (.bool true) ∧ New w w' := by
  refine enter ok Tryd.func6 rfl rfl rfl ?_
  by_cases hlow : N0 < 1
  · refine call_ (Make_err N0 w (.inl hlow)) ?_
    rintro e w1 ⟨rfl, rfl⟩
    refine ⟨_, rfl, ?_⟩
    refine if_yes (decide_eq_true hlow) ?_
    refine call_ (RMake_err _ w1 (by split <;> omega)) ?_
    rintro e w2 ⟨rfl, rfl⟩
    refine ⟨_, rfl, ?_⟩
    refine call_ (Count_void none w2 (.inl rfl)) ?_
    rintro e w3 ⟨rfl, rfl⟩
    refine ⟨_, rfl, ?_⟩
    refine call_ (yes_ok _ w3) ?_
    rintro e w4 ⟨rfl, rfl⟩
    refine ⟨_, rfl, ?_⟩
    refine if_yes (decide_eq_true ?_) ?_
    · show (0 : Int) = IntKind.i64.wrap (_ * 0)
      rw [Int.mul_zero]
      rfl
    refine call_ (works_ok w4) ?_
    rintro e w5 ⟨b5, rfl, rfl, n5⟩
    exact ⟨_, rfl, rfl, n5⟩
  by_cases hhigh : 4096 < N0
  · refine call_ (Make_err N0 w (.inr hhigh)) ?_
    rintro e w1 ⟨rfl, rfl⟩
    refine ⟨_, rfl, ?_⟩
    refine if_no (decide_eq_false hlow) ?_
    refine if_yes (decide_eq_true (show (6 : Int) < N0 by omega)) ?_
    refine call_ (RMake_err _ w1 (by split <;> omega)) ?_
    rintro e w2 ⟨rfl, rfl⟩
    refine ⟨_, rfl, ?_⟩
    refine call_ (Count_void none w2 (.inl rfl)) ?_
    rintro e w3 ⟨rfl, rfl⟩
    refine ⟨_, rfl, ?_⟩
    refine call_ (yes_ok _ w3) ?_
    rintro e w4 ⟨rfl, rfl⟩
    refine ⟨_, rfl, ?_⟩
    refine if_yes (decide_eq_true ?_) ?_
    · show (0 : Int) = IntKind.i64.wrap (_ * 0)
      rw [Int.mul_zero]
      rfl
    refine call_ (works_ok w4) ?_
    rintro e w5 ⟨b5, rfl, rfl, n5⟩
    exact ⟨_, rfl, rfl, n5⟩
  obtain ⟨n, rfl⟩ : ∃ n : Nat, N0 = n := ⟨N0.toNat, by omega⟩
  refine call_ (Make_ok n w (by omega) (by omega)) ?_
  rintro e w1 ⟨g, q, rfl, d1, k1⟩
  refine ⟨_, rfl, ?_⟩
  by_cases h6 : 6 < n
  · refine if_no (decide_eq_false hlow) ?_
    refine if_yes (decide_eq_true (show (6 : Int) < n by omega)) ?_
    have hM : ∀ z : Int, z = n → Calls Tryd.prog 24 #[.int .i64 z] w1 fun e w' => ∃ g q vc L, e = .returned (.tuple #[.pointer (some ⟨g, 0, none⟩), .int .i64 0]) ∧ Rk w' w1.heap.size g q vc L (fresh n) ∧ New w1 w' ∧ ∀ v ∈ L, ∀ b, v.ownBlock = some b → w1.heap.size ≤ b := fun z hz => by
      subst hz
      exact RMake_ok n w1 (by omega) (by omega)
    refine call_ (hM _ (by split <;> omega)) ?_
    rintro e w2 ⟨g2, q2, vc, L, rfl, r2, k2, _⟩
    refine ⟨_, rfl, ?_⟩
    refine call_ (Count_ok w.heap.size g q _ _ w2 (d1.new k2)) ?_
    rintro e w3 ⟨rfl, rfl⟩
    refine ⟨_, rfl, ?_⟩
    refine call_ (yes_ok _ w3) ?_
    rintro e w4 ⟨rfl, rfl⟩
    refine ⟨_, rfl, ?_⟩
    have hf : (fresh n).cs.length = n := by simp [fresh]
    refine if_yes (decide_eq_true ?_) ?_
    · rw [hf]
      show (n : Int) = IntKind.i64.wrap (_ * 1)
      rw [Int.mul_one]
      have e4 : (if (0 : Int) < (if (n : Int) < 4096 then (n : Int) else 4096) then (if (n : Int) < 4096 then (n : Int) else 4096) else 0) = n := by split <;> split <;> omega
      rw [wrap_i64 (by split <;> omega) (by split <;> omega)]
      split <;> omega
    refine call_ (works_ok w4) ?_
    rintro e w5 ⟨b5, rfl, rfl, n5⟩
    exact ⟨_, rfl, rfl, (k1.trans k2).trans n5⟩
  refine if_no (decide_eq_false hlow) ?_
  refine if_no (decide_eq_false (show ¬ (6 : Int) < n by omega)) ?_
  refine call_ (RMake_ok n w1 (by omega) (by omega)) ?_
  rintro e w2 ⟨g2, q2, vc, L2, rfl, r2, k2, hL2⟩
  refine ⟨_, rfl, ?_⟩
  have hf : (fresh n).cs.length = n := by simp [fresh]
  have t2 : Two w2 w.heap.size g q g2 q2 vc (fun _ => .slice none 0 0) L2 n (fresh n) (fresh n) := by
    refine ⟨d1.new k2, r2.base k1.size, hf, hf, fun b hb hr => ?_⟩
    have h1 := (d1.lt b (by rw [hf]; exact hb)).2
    have h2 := r2.lt
    have h3 := r2.bg
    rcases hr with rfl | rfl | ⟨j, v, hj, hv⟩
    · omega
    · omega
    · have := hL2 v (List.mem_of_getElem? hj) b hv
      omega
  have ini : fresh n = runs7 (fresh n) (acts.take 0) := rfl
  rw [ini] at t2
  refine den_loop (σ := Nat × (Nat → Value) × List Value) (fun t => [(0, .int .i64 n), (1, .slice D n0 c0), (5, .pointer (some ⟨g, 0, none⟩)), (9, .pointer (some ⟨g2, 0, none⟩)), (11, .int .i64 t.1)])
    (fun m t wl => t.1 ≤ n0 ∧ t.1 ≤ 80 ∧ m = 80 - t.1 ∧ Two wl w.heap.size g q g2 q2 vc t.2.1 t.2.2 n (runs7 (fresh n) (acts.take t.1)) (runs7 (fresh n) (acts.take t.1)) ∧ New w wl) 80 (0, _, _) ⟨rfl, rfl, rfl, rfl, rfl, trivial⟩ ⟨Nat.zero_le _, Nat.zero_le _, rfl, t2, k1.trans k2⟩ ?_
  rintro m ⟨i, vs, L⟩ wl fr0 ⟨hi, hi80, rfl, tw, nl⟩
  dsimp only at hi hi80 tw
  have finish : ∀ (s : DS), Two wl w.heap.size g q g2 q2 vc vs L n s s → True := fun _ _ => trivial
  refine if_p (fun hlt => ?_) (fun hge => ?_)
  rotate_left
  · refine call_ (Count_ok w.heap.size g q _ _ wl tw.d) ?_
    rintro e w3 ⟨rfl, rfl⟩
    refine ⟨_, rfl, ?_⟩
    refine if_yes (decide_eq_true (by rw [tw.ls])) ?_
    refine call_ (works_ok w3) ?_
    rintro e w4 ⟨b4, rfl, rfl, n4⟩
    exact ⟨_, rfl, rfl, nl.trans n4⟩
  refine if_p (fun hlt2 => ?_) (fun hge2 => ?_)
  rotate_left
  · refine call_ (Count_ok w.heap.size g q _ _ wl tw.d) ?_
    rintro e w3 ⟨rfl, rfl⟩
    refine ⟨_, rfl, ?_⟩
    refine if_yes (decide_eq_true (by rw [tw.ls])) ?_
    refine call_ (works_ok w3) ?_
    rintro e w4 ⟨b4, rfl, rfl, n4⟩
    exact ⟨_, rfl, rfl, nl.trans n4⟩
  replace hlt : (i : Int) < n0 := hlt
  replace hlt2 : (i : Int) < 80 := hlt2
  have hi' : i < acts.length := by omega
  have hacts : ∀ a ∈ acts.take i, a.n ≤ 9223372036854775807 := fun a ha => (hao a (List.mem_of_mem_take ha)).1.nb.2
  have hinv := inv7_runs (fresh n) n 0 (inv7_fresh n) (acts.take i) hacts
  rw [List.length_take, Nat.min_eq_left (by omega), Nat.zero_add] at hinv
  have hstep : runs7 (fresh n) (acts.take (i + 1)) = act7 (runs7 (fresh n) (acts.take i)) acts[i] := by rw [List.take_succ_eq_append_getElem hi', runs7_snoc]
  have hok := hao acts[i] (List.getElem_mem hi')
  obtain ⟨a, rfl, hcells⟩ := hd0.at_ i (by simpa using hi')
  have hcell' : ∀ k u, (acts[i].cells)[k]? = some u → wl.cell? ((a.add (i * 6)).add k) = some u := fun k u hu => nl.cell (hcells k u (by simpa using hu))
  generalize acts[i] = ac at hcell' hstep hok
  generalize runs7 (fresh n) (acts.take i) = s at tw hinv hstep
  clear hcells hacts
  refine skip_ (thenF_ (seq_ (block_ (seq_ (region_ ?_)))))
  refine ops_cut (σ := Unit) (fun _ => [(0, .int .i64 n), (1, .slice (some a) n0 c0), (5, .pointer (some ⟨g, 0, none⟩)), (9, .pointer (some ⟨g2, 0, none⟩)), (11, .int .i64 i), (12, .pointer (some ⟨wl.heap.size, 0, none⟩))])
    (fun _ w' => New wl w' ∧ w'.heap[wl.heap.size]? = some (.cells (ac.cells).toArray 43 (0, 0))) ?_ ?_
  rotate_left
  · intro K hK
    refine And.intro (by omega) (And.intro hlt ?_)
    refine loadN_row (vs := ac.cells) (by rw [Int.toNat_natCast]; exact hcell') rfl ?_
    refine And.intro rfl ?_
    refine storeN_all (vs := ac.cells) (arr := #[.int .i64 0, .int .i64 0, .int .i64 0, .int .u8 0, .bool false, .slice none 0 0]) (t := 43) (heap_alloc_new wl _) rfl (by intro v hv; simp [ActV.cells] at hv; rcases hv with rfl | rfl | rfl | rfl | rfl | rfl <;> rfl) ?_
    intro w' hb mb hs
    refine hK () _ _ ⟨rfl, rfl, rfl, rfl, rfl, rfl, trivial⟩ ⟨Mod.trans (New.alloc wl _) mb (fun b hb e => by omega), hb⟩
  rintro _ w3 fr1 ⟨n3, hblk⟩
  have t3 := tw.new n3
  have nl3 := nl.trans n3
  have off3 : Off g q n vs g2 q2 L wl.heap.size := tw.off (Nat.le_refl _)
  have hblt : wl.heap.size < w3.heap.size := (Array.getElem?_eq_some_iff.1 hblk).1
  have cell : ∀ {w' : World} {S : Nat → Prop}, Mod S w3 w' → ¬ S wl.heap.size → ∀ j, w'.cell? ⟨wl.heap.size, j, none⟩ = (ac.cells)[j]? := fun m hn j => by
    rw [cell_of_row _ _ j _ _ _ (m.blk hblk hn)]
    simp
  refine thenF_ (seq_assign ?_)
  refine seq_cut (σ := (Nat → Value) × List Value) (fun _ => [(0, .int .i64 n), (1, .slice (some a) n0 c0), (5, .pointer (some ⟨g, 0, none⟩)), (9, .pointer (some ⟨g2, 0, none⟩)), (11, .int .i64 i), (13, .bool true)])
    (fun t w' => Two w' w.heap.size g q g2 q2 vc t.1 t.2 n (act7 s ac) (act7 s ac) ∧ New w w') ?_ ?_
  · rintro ⟨vs4, L4⟩ w4 fr4 ⟨t4, n4⟩
    have hinv4 := hinv.act ac hok.1.nb.2
    have hsl4 := hinv4.len
    obtain ⟨s4, hs4⟩ : ∃ s4, s4 = act7 s ac := ⟨_, rfl⟩
    rw [← hs4] at t4 hinv4 hsl4 hstep
    have hlim4 := hinv4.lim (by omega)
    refine draw_ ok (.q 0 (.q 1 (.q 2 (.q 3 (.q 5 (.q 6 (.q 7 (.q 8 (.e 4 (.q 9 (.q 10 (.q 11 (.q 12 (.q 14 (.e 13 (.e 15 (.e 16 (.q 17 (.q 18 (.q 19 (.q 20 (.q 22 (.e 21 (.e 23 (.e 24 (.q 25 (.q 26 .done))))))))))))))))))))))))))) [26] (New w4) (by kernel_rfl) (by kernel_rfl) (by kernel_rfl) (by kernel_rfl) (by kernel_rfl) (New.drew _) ?_
    refine Exists.intro s4.moves ?_
    refine And.intro (fun w'' hw => by rw [ad0]; exact hw.cell t4.r.c1) ?_
    refine call_ (Moves_ok w.heap.size g q vs4 s4 w4.drew (t4.d.new (New.drew _))) ?_
    rintro e w5 ⟨rfl, rfl⟩
    refine ⟨_, rfl, ?_⟩
    refine Exists.intro (New w4) (And.intro (fun _ h => h) (And.intro (New.drew _) ?_))
    refine if_n (fun h => absurd rfl h) (fun _ => ?_)
    have tD := t4.new (New.drew w4)
    refine call_ (Cached_ok w.heap.size g q vs4 s4 w4.drew tD.d (by omega)) ?_
    rintro e w6 ⟨v6, rfl, own6, n6⟩
    obtain ⟨A6, c6, rfl, _, _, row6, _⟩ := own_slice own6
    refine ⟨_, rfl, ?_⟩
    have k6 := (New.drew w4).trans n6
    have t6 := tD.new n6
    refine Exists.intro (New w4) (And.intro (fun _ h => h) (And.intro k6 ?_))
    refine call_ (RCached_ok w.heap.size g2 q2 vc L4 s4 w6 t6.r (by omega)) ?_
    rintro e w7 ⟨v7, rfl, own7, n7⟩
    obtain ⟨A7, c7, rfl, _, _, row7, _⟩ := own_slice own7
    refine ⟨_, rfl, ?_⟩
    have k7 := k6.trans n7
    have t7 := t6.new n7
    refine Exists.intro (New w4) (And.intro (fun _ h => h) (And.intro k7 ?_))
    have hcl : (cached s4.cs).length ≤ 4096 := by have := waitTo_le s4.cs s4.cs.length; unfold cached; omega
    refine call_ (SameInts_ok A6 A7 _ c6 _ c7 _ _ w7 (by rw [List.length_map]) (by rw [List.length_map]) (row6.new n7) row7 (by omega)) ?_
    rintro e w8 ⟨rfl, n8⟩
    refine ⟨_, rfl, ?_⟩
    have k8 := k7.trans n8
    have t8 := t7.new n8
    refine Exists.intro (New w4) (And.intro (fun _ h => h) (And.intro k8 ?_))
    refine if_n (fun h => absurd rfl h) (fun _ => ?_)
    refine call_ (Dump_ok w.heap.size g q vs4 s4 w8 t8.d (by omega)) ?_
    rintro e w9 ⟨v9, rfl, own9, n9⟩
    obtain ⟨A9, c9, rfl, _, _, row9, _⟩ := own_slice own9
    refine ⟨_, rfl, ?_⟩
    have k9 := k8.trans n9
    have t9 := t8.new n9
    refine Exists.intro (New w4) (And.intro (fun _ h => h) (And.intro k9 ?_))
    refine call_ (RDump_ok w.heap.size g2 q2 vc L4 s4 w9 t9.r (by omega) hlim4) ?_
    rintro e w10 ⟨v10, rfl, own10, n10⟩
    obtain ⟨A10, c10, rfl, _, _, row10, _⟩ := own_slice own10
    refine ⟨_, rfl, ?_⟩
    have k10 := k9.trans n10
    have t10 := t9.new n10
    refine Exists.intro (New w4) (And.intro (fun _ h => h) (And.intro k10 ?_))
    refine call_ (Base.SameBytes_ok A9 A10 _ c9 _ c10 _ _ w10 rfl rfl (row9.new n10) row10) ?_
    rintro e w11 ⟨rfl, rfl⟩
    refine ⟨_, rfl, ?_⟩
    refine Exists.intro (New w4) (And.intro (fun _ h => h) (And.intro k10 ?_))
    refine if_n (fun h => absurd rfl h) (fun _ => ?_)
    refine ⟨80 - (i + 1), (i + 1, vs4, L4), by omega, ⟨rfl, rfl, rfl, rfl, ?_, trivial⟩, by show i + 1 ≤ n0; omega, by show i + 1 ≤ 80; omega, rfl, ?_, n4.trans k10⟩
    · show Value.int .i64 (IntKind.i64.wrap _) = _
      rw [wrap_i64 (by omega) (by omega)]
      rfl
    · show Two w11 w.heap.size g q g2 q2 vc vs4 L4 n (runs7 (fresh n) (acts.take (i + 1))) (runs7 (fresh n) (acts.take (i + 1)))
      rw [hstep]
      exact t10
  intro K hK
  refine Exists.intro ac.d ?_
  refine And.intro (by rw [ad0]; exact cell (New.refl _) (fun h => h) 0) ?_
  refine call_ (Base.Among_ok ac.d 7 w3 (by omega)) ?_
  rintro e w5 ⟨rfl, rfl⟩
  refine ⟨_, rfl, ?_⟩
  obtain ⟨j0, j1⟩ := Base.among_lt (x := ac.d) (n := 7) (by omega)
  generalize ham : Base.among ac.d 7 = am at j0 j1
  refine seq_cut (σ := Unit) (fun _ => [(0, .int .i64 n), (1, .slice (some a) n0 c0), (5, .pointer (some ⟨g, 0, none⟩)), (9, .pointer (some ⟨g2, 0, none⟩)), (11, .int .i64 i), (12, .pointer (some ⟨wl.heap.size, 0, none⟩)), (13, .bool true), (83, .int .i64 am), (84, .bool (decide (am < 3)))]) (fun _ w' => w' = w5) ?_ ?_
  rotate_left
  · intro K' hK'
    refine if_p (fun h0 => ?_) (fun h0 => ?_)
    · refine hK' () _ _ ⟨rfl, rfl, rfl, rfl, rfl, rfl, rfl, rfl, ?_, trivial⟩ rfl
      show Value.bool (decide (am = 0)) = .bool (decide (am < 3))
      rw [decide_eq_true h0, decide_eq_true (by omega)]
    refine if_p (fun h1 => ?_) (fun h1 => ?_)
    · refine hK' () _ _ ⟨rfl, rfl, rfl, rfl, rfl, rfl, rfl, rfl, ?_, trivial⟩ rfl
      show Value.bool (decide (am = 1)) = .bool (decide (am < 3))
      rw [decide_eq_true h1, decide_eq_true (by omega)]
    refine hK' () _ _ ⟨rfl, rfl, rfl, rfl, rfl, rfl, rfl, rfl, ?_, trivial⟩ rfl
    show Value.bool (decide (am = 2)) = .bool (decide (am < 3))
    have e : (am = 2) = (am < 3) := by
      apply propext
      constructor
      · omega
      · intro h
        replace h0 : ¬ am = 0 := h0
        replace h1 : ¬ am = 1 := h1
        omega
    simp only [e]
  rintro _ w5 fr5 rfl
  refine if_p (fun h3 => ?_) (fun h3 => ?_)
  · -- a store
    have ea : act7 s ac = storeDS s ac.at_ (bytesOf ac) := by unfold act7; rw [ham, if_pos h3]
    rw [ea] at hK
    refine Exists.intro (ac.b.toNat : Int) ?_
    refine And.intro (by rw [ad0]; exact cell (New.refl _) (fun h => h) 3) ?_
    refine call_ (of_ok ac.b w5) ?_
    rintro e w6 ⟨v6, rfl, own6, n6⟩
    obtain ⟨gq, c6, rfl, hgq, hgl, hc6, ht6⟩ := own_pos own6 (by decide)
    obtain ⟨_, _, he6, _, _, row6, _⟩ := own_slice own6
    cases he6
    refine ⟨_, rfl, ?_⟩
    have t6 := t3.new n6
    have cell6 : ∀ j, w6.cell? ⟨wl.heap.size, j, none⟩ = (ac.cells)[j]? := cell n6 (fun h => h)
    refine seq_cut (σ := Option Addr × Nat × Nat) (fun t => [(0, .int .i64 n), (1, .slice (some a) n0 c0), (5, .pointer (some ⟨g, 0, none⟩)), (9, .pointer (some ⟨g2, 0, none⟩)), (11, .int .i64 i), (12, .pointer (some ⟨wl.heap.size, 0, none⟩)), (14, .slice t.1 t.2.1 t.2.2)])
      (fun t w' => w' = w6 ∧ (∃ o, t.1 = some ⟨gq, o, none⟩ ∧ t.2.1 + o = 256) ∧ Row w6 t.1 (bvs (bytesOf ac)) ∧ t.2.1 = (bytesOf ac).length ∧ t.2.1 ≤ t.2.2) ?_ ?_
    rotate_left
    · intro K' hK'
      refine Exists.intro ac.sh ?_
      refine And.intro (by rw [ad0]; exact cell6 4) ?_
      refine if_ (fun hs => ?_) (fun hs => ?_)
      · refine And.intro (by omega) (And.intro (by omega) ?_)
        refine hK' (some ⟨gq, 1, none⟩, 255, c6 - 1) _ _ ⟨rfl, rfl, rfl, rfl, rfl, rfl, ?_, trivial⟩ ⟨rfl, ⟨1, rfl, rfl⟩, ?_, ?_, by show 255 ≤ c6 - 1; omega⟩
        · show Value.slice (slA (some ⟨gq, 0, none⟩) c6 1 1) (256 - 1) (c6 - 1) = _
          unfold slA
          rw [if_neg (by omega)]
          show Value.slice (some ((⟨gq, 0, none⟩ : Addr).add 1)) _ _ = _
          rw [ad0]
        · unfold bytesOf
          rw [if_pos hs]
          have := row6.drop 1
          rw [show (some (⟨gq, 0, none⟩ : Addr)).map (·.add 1) = some ⟨gq, 1, none⟩ by rw [Option.map_some, ad0]] at this
          unfold bvs at this ⊢
          rw [List.map_drop]
          exact this
        · unfold bytesOf
          rw [if_pos hs, List.length_drop, rep_len]
      · refine hK' (some ⟨gq, 0, none⟩, 256, c6) _ _ ⟨rfl, rfl, rfl, rfl, rfl, rfl, rfl, trivial⟩ ⟨rfl, ⟨0, rfl, rfl⟩, ?_, ?_, hc6⟩
        · unfold bytesOf
          rw [if_neg (by rw [hs]; simp)]
          exact row6
        · unfold bytesOf
          rw [if_neg (by rw [hs]; simp), rep_len]
    rintro ⟨A7, n7, c7⟩ w7 fr7 ⟨rfl, ⟨o, rfl, ho⟩, row7, hn7, hc7⟩
    dsimp only at ho row7 hn7 hc7
    have off7 : Off g q n vs g2 q2 L gq := t3.off hgq
    have e1 : ∀ {w' : World}, Mod (fun b => DSet g q n vs b ∨ RW g2 q2 b) w7 w' → w'.cell? ⟨wl.heap.size, 1, none⟩ = some (.int .i64 ac.at_) := fun m =>
      (cell (S := fun b => DSet g q n vs b ∨ RW g2 q2 b) (Mod.trans n6.mod m fun b _ e => e) (fun e => e.elim off3.1 fun e => off3.2 (RW.set e)) 1)
    refine draw_ ok (.q 0 (.q 1 (.q 2 (.q 3 (.q 5 (.q 6 (.q 7 (.q 8 (.e 4 (.e 9 (.e 10 (.q 11 (.q 12 .done))))))))))))) [12] (Mod (fun b => DSet g q n vs b ∨ RW g2 q2 b) w7) (by kernel_rfl) (by kernel_rfl) (by kernel_rfl) (by kernel_rfl) (by kernel_rfl) (New.drew _).mod ?_
    refine Exists.intro ac.at_ ?_
    refine And.intro (fun w'' hw => by rw [ad0]; exact e1 hw) ?_
    refine Exists.intro ac.at_ ?_
    refine And.intro (fun w'' hw => by rw [ad0]; exact e1 hw) ?_
    have t7 := t6.new (New.drew w7)
    have hS := Store_ok w.heap.size g q vs s ac.at_ (some ⟨gq, o, none⟩) n7 c7 (bytesOf ac) w7.drew t7.d (hinv.fine (by omega)) hn7 (row7.new (New.drew _)) (by rw [tw.ls]; omega) (by rw [tw.ls]; omega) (hinv.lim (by omega)) (fun b hb => by cases hb; rw [tw.ls]; exact off7.1) (by have := nl3.size; have := n6.size; show w.heap.size ≤ w7.heap.size; omega)
    rw [tw.ls] at hS
    refine call_ hS ?_
    rintro e w8 ⟨rfl, vs8, d8, m8, f8⟩
    refine ⟨_, rfl, ?_⟩
    have hl8 : (storeDS s ac.at_ (bytesOf ac)).cs.length = n := (hinv.store ac.at_ (bytesOf ac)).len
    have t8 := t7.own d8 hl8 m8 f8
    have k8 : Mod (fun b => DSet g q n vs b ∨ RW g2 q2 b) w7 w8 := Mod.trans (New.drew w7).mod m8 fun b _ e => .inl e
    have off8 : Off g q n vs8 g2 q2 L gq := off7.own hgl f8
    refine Exists.intro (Mod (fun b => DSet g q n vs b ∨ RW g2 q2 b) w7) (And.intro (fun _ h => h) (And.intro k8 ?_))
    have row8 : Row w8 (some ⟨gq, o, none⟩) (bvs (bytesOf ac)) := row7.mod k8 fun a ha e => by
      cases ha
      exact e.elim off7.1 fun e => off7.2 (RW.set e)
    refine call_ (Base.Bytes_ok (some ⟨gq, o, none⟩) n7 c7 (bytesOf ac) w8 hn7 row8 (by omega)) ?_
    rintro e w9 ⟨v9, rfl, own9, n9⟩
    obtain ⟨A9, c9, rfl, _, _, row9, hA9⟩ := own_slice own9
    refine ⟨_, rfl, ?_⟩
    have t9 := t8.new n9
    have k9 : Mod (fun b => DSet g q n vs b ∨ RW g2 q2 b) w7 w9 := Mod.trans k8 n9 fun b _ e => e.elim
    refine Exists.intro (Mod (fun b => DSet g q n vs b ∨ RW g2 q2 b) w7) (And.intro (fun _ h => h) (And.intro k9 ?_))
    refine call_ (RStore_ok w.heap.size g2 q2 vc L s ac.at_ A9 n7 c9 (bytesOf ac) w9 t9.r (hinv.fine (by omega)) hn7 row9 (by rw [tw.ls]; omega) (hinv.lim (by omega)) (fun a ha e => by have := (hA9 a ha).1; have := t8.r.lt; omega)) ?_
    rintro e w10 ⟨rfl, L10, r10, m10, f10⟩
    refine ⟨_, rfl, ?_⟩
    have t10 := t9.ref r10 hl8 m10 f10
    have k10 : Mod (fun b => DSet g q n vs b ∨ RW g2 q2 b) w7 w10 := Mod.trans k9 m10 fun b _ e => .inr e
    have hgl7 : gq < w7.heap.size := hgl
    have hs8 := k8.size
    have hs9 := k9.size
    have hs10 := k10.size
    have off10 : Off g q n vs8 g2 q2 L10 gq := off8.ref (by omega) f10
    refine Exists.intro (Mod (fun b => DSet g q n vs b ∨ RW g2 q2 b) w7) (And.intro (fun _ h => h) (And.intro k10 ?_))
    have k10' : New w w10 := t9.farR (t7.farD ((nl3.trans n6).trans (New.drew w7)) m8 |>.trans n9) m10
    have own10 : w10.ownsRow w5.heap.size 5 1 (.slice (some ⟨gq, 0, none⟩) 256 c6) 256 (bvs (rep ac.b)) := own_mod k10 own6 (fun b hb e => by
      cases hb
      exact e.elim off7.1 fun e => off7.2 (RW.set e))
    -- the bytes are turned
    refine den_loop (σ := Nat) (fun x => [(0, .int .i64 n), (1, .slice (some a) n0 c0), (5, .pointer (some ⟨g, 0, none⟩)), (9, .pointer (some ⟨g2, 0, none⟩)), (11, .int .i64 i), (13, .bool true), (14, .slice (some ⟨gq, o, none⟩) n7 c7), (15, .int .i64 x)])
      (fun m x wx => x ≤ n7 ∧ m = n7 - x ∧ (∃ ys : List UInt8, ys.length = 256 ∧ wx.ownsRow w5.heap.size 5 1 (.slice (some ⟨gq, 0, none⟩) 256 c6) 256 (bvs ys)) ∧ Mod (fun b => b = gq) w10 wx) n7 0 ⟨rfl, rfl, rfl, rfl, rfl, by show Value.bool (decide (_ = _)) = _; rw [decide_eq_true rfl], rfl, rfl, trivial⟩
      ⟨Nat.zero_le _, rfl, ⟨_, rep_len _, own10⟩, Mod.refl _ _⟩ ?_
    rintro m x wx fr8 ⟨hx, rfl, ⟨ys, hys, ownx⟩, mx⟩
    refine if_p (fun hxl => ?_) (fun hxg => ?_)
    · replace hxl : (x : Int) < n7 := hxl
      obtain ⟨hcx, hfx, hst⟩ := own_store ownx (o + x) (by rw [bvs_length]; omega)
      have ex : (⟨gq, o, none⟩ : Addr).add ((x : Int).toNat * 1) = ⟨gq, o + x, none⟩ := by rw [Nat.mul_one, Int.toNat_natCast, ad1]
      refine And.intro (by omega) (And.intro hxl (And.intro ⟨_, by rw [ex]; exact hcx⟩ (And.intro (by rw [ex]; exact hfx) ?_)))
      obtain ⟨own11, mod11⟩ := hst (bv 201)
      rw [bvs_set] at own11
      refine ⟨n7 - (x + 1), x + 1, by omega, ⟨rfl, rfl, rfl, rfl, rfl, rfl, rfl, ?_, trivial⟩, by omega, rfl, ⟨ys.set (o + x) 201, ?_, ?_⟩, ?_⟩
      · show Value.int .i64 (IntKind.i64.wrap _) = _
        rw [wrap_i64 (by omega) (by omega)]
        rfl
      · rw [List.length_set]; exact hys
      · rw [← ex] at own11
        exact own11
      · rw [← ex] at mod11
        have hb11 : ((⟨gq, o, none⟩ : Addr).add ((x : Int).toNat * 1)).block = gq := by rw [ex]
        exact Mod.trans mx mod11 fun b _ e => by omega
    · exact hK (vs8, L10) _ _ ⟨rfl, rfl, rfl, rfl, rfl, rfl, trivial⟩ ⟨t10.keep mx fun b e => by subst e; exact off10, Mod.trans k10' mx fun b hb e => by
        have := nl3.size
        have e' : b = gq := e
        omega⟩
  refine if_p (fun h4 => ?_) (fun h4 => ?_)
  · -- a barrier
    have ea : act7 s ac = barDS s := by unfold act7; rw [ham, if_neg h3, if_pos h4]
    rw [ea] at hK
    have hB := Barrier_ok w.heap.size g q vs s w5 t3.d (hinv.fine (by omega)) (by rw [tw.ls]; omega) (by rw [tw.ls]; omega) (hinv.lim (by omega))
    rw [tw.ls] at hB
    refine call_ hB ?_
    rintro e w8 ⟨rfl, vs8, d8, m8, f8⟩
    refine ⟨_, rfl, ?_⟩
    have hl8 : (barDS s).cs.length = n := hinv.bar.len
    have t8 := t3.own d8 hl8 m8 (fun b hb => .inl (f8 b hb))
    refine call_ (RBarrier_ok w.heap.size g2 q2 vc L s w8 t8.r (hinv.fine (by omega)) (by rw [tw.ls]; omega) (hinv.lim (by omega))) ?_
    rintro e w10 ⟨rfl, L10, r10, m10, f10⟩
    refine ⟨_, rfl, ?_⟩
    exact hK (vs8, L10) _ _ ⟨rfl, rfl, rfl, rfl, rfl, by show Value.bool (decide (_ = _)) = _; rw [decide_eq_true rfl], trivial⟩ ⟨t8.ref r10 hl8 m10 f10, t8.farR (t3.farD nl3 m8) m10⟩
  refine if_p (fun h5 => ?_) (fun h5 => ?_)
  · -- fetched
    have ea : act7 s ac = s := by unfold act7; rw [ham, if_neg h3, if_neg h4, if_pos h5]
    rw [ea] at hK
    refine Exists.intro ac.at_ ?_
    refine And.intro (by rw [ad0]; exact cell (New.refl _) (fun h => h) 1) ?_
    refine call_ (Fetch_ok w.heap.size g q vs s ac.at_ w5 t3.d (by rw [tw.ls]; omega) (by rw [tw.ls]; omega)) ?_
    rintro e w6 ⟨v6, rfl, ans6, n6⟩
    have hrow6 := ans6.row
    obtain ⟨A6, c6, rfl, row6, hA6⟩ := hrow6
    refine ⟨_, rfl, ?_⟩
    have t6 := t3.new n6
    refine Exists.intro ac.at_ ?_
    refine And.intro (by rw [ad0]; exact cell n6 (fun h => h) 1) ?_
    refine call_ (RFetch_ok w.heap.size g2 q2 vc L s ac.at_ w6 t6.r (by rw [tw.ls]; omega) (hinv.lim (by omega))) ?_
    rintro e w7 ⟨A7, c7, rfl, row7, n7⟩
    refine ⟨_, rfl, ?_⟩
    have t7 := t6.new n7
    refine if_yes (decide_eq_true rfl) ?_
    refine call_ (Base.SameBytes_ok A6 A7 _ c6 _ c7 (fetchBs s ac.at_) (fetchBs s ac.at_) w7 rfl rfl (row6.new n7) row7) ?_
    rintro e w8 ⟨rfl, rfl⟩
    refine ⟨_, rfl, ?_⟩
    have k8 := (nl3.trans n6).trans n7
    have hlen : (fetchBs s ac.at_).length ≤ 256 := by
      unfold fetchBs
      split
      · rename_i h0
        have hrange : ¬ (ac.at_ < 0 ∨ (s.cs.length : Int) ≤ ac.at_) := by
          intro hb
          unfold fetchErr at h0
          rw [if_pos hb] at h0
          cases h0
        have hl : ac.at_.toNat < s.cs.length := by omega
        rw [List.getD_eq_getElem?_getD, List.getElem?_eq_getElem hl]
        exact Nat.le_of_eq (tw.r.oks _ (List.getElem_mem hl)).now
      · exact Nat.zero_le _
    generalize fetchBs s ac.at_ = fb at ans6 row6 row7 hlen
    have ini6 : ∃ ys : List UInt8, ys.length = fb.length ∧ (fb = [] ∨ ∃ b t, A6 = some ⟨b, 0, none⟩ ∧ w8.heap[b]? = some (.cells (bvs ys).toArray t (0, 0)) ∧ w5.heap.size ≤ b ∧ b < w8.heap.size) := by
      rcases ans6 with ⟨_, hfb⟩ | ⟨b, t, hv, hb, hge⟩
      · exact ⟨fb, rfl, .inl hfb⟩
      · injection hv with h1 h2 h3
        subst h1
        have hb8 := n7.blk hb
        exact ⟨fb, rfl, .inr ⟨b, t, rfl, hb8, hge, (Array.getElem?_eq_some_iff.1 hb8).1⟩⟩
    refine den_loop (σ := Nat) (fun x => [(0, .int .i64 n), (1, .slice (some a) n0 c0), (5, .pointer (some ⟨g, 0, none⟩)), (9, .pointer (some ⟨g2, 0, none⟩)), (11, .int .i64 i), (13, .bool true), (16, .slice A6 fb.length c6), (20, .int .i64 x)])
      (fun m x wx => x ≤ fb.length ∧ m = fb.length - x ∧ (∃ ys : List UInt8, ys.length = fb.length ∧ (fb = [] ∨ ∃ b t, A6 = some ⟨b, 0, none⟩ ∧ wx.heap[b]? = some (.cells (bvs ys).toArray t (0, 0)) ∧ w5.heap.size ≤ b ∧ b < w8.heap.size)) ∧ Mod (fun b => w5.heap.size ≤ b ∧ ∃ a, A6 = some a ∧ a.block = b) w8 wx) fb.length 0 ⟨rfl, rfl, rfl, rfl, rfl, by show Value.bool (decide (_ = _)) = _; rw [decide_eq_true rfl], rfl, rfl, trivial⟩ ⟨Nat.zero_le _, rfl, ini6, Mod.refl _ _⟩ ?_
    rintro m x wx fr8 ⟨hx, rfl, ⟨ys, hys, hor⟩, mx⟩
    refine if_p (fun hxl => ?_) (fun hxg => ?_)
    · replace hxl : (x : Int) < fb.length := hxl
      rcases hor with hfb | ⟨b, t, rfl, hbx, hge, hb8⟩
      · rw [hfb] at hxl
        exact absurd hxl (by show ¬ (x : Int) < 0; omega)
      have ex : (⟨b, 0, none⟩ : Addr).add ((x : Int).toNat * 1) = ⟨b, x, none⟩ := by rw [Nat.mul_one, Int.toNat_natCast, ad0]
      have hcx : wx.cell? ⟨b, x, none⟩ = some (bv (ys[x]'(by omega))) := by
        rw [cell_of_row _ _ x _ _ _ hbx]
        have := bvs_get ys x (by omega)
        simpa using this
      refine And.intro (by omega) (And.intro hxl (And.intro ⟨_, by rw [ex]; exact hcx⟩ (And.intro (by rw [ex]; exact frozen_of_row _ _ _ _ _ hbx) ?_)))
      have hb9 := heap_setCell_same wx b x _ _ (bv 202) hbx
      have m9 := Mod.set wx ⟨b, x, none⟩ (bv 202)
      have hset : (bvs ys).toArray.setIfInBounds x (bv 202) = (bvs (ys.set x 202)).toArray := by rw [← bvs_set]; simp
      rw [hset] at hb9
      refine ⟨fb.length - (x + 1), x + 1, by omega, ⟨rfl, rfl, rfl, rfl, rfl, rfl, rfl, ?_, trivial⟩, by omega, rfl, ⟨ys.set x 202, ?_, .inr ⟨b, t, rfl, ?_, hge, hb8⟩⟩, ?_⟩
      · show Value.int .i64 (IntKind.i64.wrap _) = _
        rw [wrap_i64 (by omega) (by omega)]
        rfl
      · rw [List.length_set]; exact hys
      · rw [ex]
        exact hb9
      · rw [ex]
        exact Mod.trans mx m9 fun b' _ e => ⟨by have e' : b' = b := e; omega, _, rfl, e.symm⟩
    · exact hK (vs, L) _ _ ⟨rfl, rfl, rfl, rfl, rfl, rfl, trivial⟩ ⟨t7.keep mx fun b e => t3.off e.1, Mod.trans k8 mx fun b hb e => by
        have := nl3.size
        have e' := e.1
        omega⟩
  refine if_p (fun h6' => ?_) (fun h6' => ?_)
  · -- a trip
    have ea : act7 s ac = { s with trip := max ac.n (-1) } := by unfold act7; rw [ham, if_neg h3, if_neg h4, if_neg h5, if_pos h6']
    rw [ea] at hK
    refine Exists.intro ac.n ?_
    refine And.intro (by rw [ad0]; exact cell (New.refl _) (fun h => h) 2) ?_
    refine call_ (Trip_ok w.heap.size g q vs s ac.n w5 t3.d (by rw [tw.ls]; omega)) ?_
    rintro e w8 ⟨rfl, d8, m8⟩
    refine ⟨_, rfl, ?_⟩
    have m8' : Mod (DSet g q n vs) w5 w8 := m8.mono fun b _ e => .inl e
    have t8 := t3.own d8 tw.ls m8' (fun b hb => .inl hb)
    refine Exists.intro ac.n ?_
    refine And.intro (by rw [ad0]; exact cell m8' off3.1 2) ?_
    refine call_ (RTrip_ok w.heap.size g2 q2 vc L s ac.n w8 t8.r) ?_
    rintro e w10 ⟨rfl, r10, m10⟩
    refine ⟨_, rfl, ?_⟩
    have m10' : Mod (RW g2 q2) w8 w10 := m10.mono fun b _ e => .inl e
    exact hK (vs, L) _ _ ⟨rfl, rfl, rfl, rfl, rfl, rfl, trivial⟩ ⟨t8.ref r10 tw.ls m10' (fun b hb => .inl hb), t8.farR (t3.farD nl3 m8') m10'⟩
  have h7 : am = 6 := by
    replace h3 : ¬ am < 3 := h3
    replace h4 : ¬ am = 3 := h4
    replace h5 : ¬ am = 4 := h5
    replace h6' : ¬ am = 5 := h6'
    omega
  have ea : act7 s ac = crashDS s ac.ks := by unfold act7; rw [ham, if_neg h3, if_neg h4, if_neg h5, if_neg h6']
  rw [ea] at hK
  refine if_yes (decide_eq_true h7) ?_
  refine Exists.intro ac.K (Exists.intro ac.kn (Exists.intro ac.kc ?_))
  refine And.intro (by rw [ad0]; exact cell (New.refl _) (fun h => h) 5) ?_
  have hKrow := hok.1.kr.new nl3
  refine call_ (Ints_ok ac.K ac.kn ac.kc ac.ks w5 hok.1.kn hKrow (by have := hok.2; omega)) ?_
  rintro e w6 ⟨v6, rfl, own6, n6⟩
  obtain ⟨A6, c6, rfl, _, _, row6, hA6⟩ := own_slice own6
  refine ⟨_, rfl, ?_⟩
  have t6 := t3.new n6
  have hC := Crash_ok w.heap.size g q vs s A6 ac.kn c6 ac.ks w6 t6.d (by rw [tw.ls]; omega) (by rw [tw.ls]; omega) (hinv.lim (by omega)) row6 hok.1.kn (fun _ a ha e => by have := (hA6 a ha).1; have := (t3.d.lt q (.inr (.inl rfl))).2; omega)
  rw [tw.ls] at hC
  refine call_ hC ?_
  rintro e w8 ⟨rfl, vs8, d8, m8, f8⟩
  refine ⟨_, rfl, ?_⟩
  have hl8 : (crashDS s ac.ks).cs.length = n := by rw [crash_len]; exact tw.ls
  have t8 := t6.own d8 hl8 m8 (fun b hb => .inl (f8 b hb))
  have k8 : Mod (DSet g q n vs) w5 w8 := Mod.trans n6.mod m8 fun b _ e => e
  refine Exists.intro ac.K (Exists.intro ac.kn (Exists.intro ac.kc ?_))
  refine And.intro (by rw [ad0]; exact cell k8 off3.1 5) ?_
  have hklow : ac.ks ≠ [] → ∀ b, ac.K = some b → b.block < w.heap.size := fun hne b hb => hok.1.kr.lt (by simpa [ivs] using hne) hb
  have hKrow8 : Row w8 ac.K (ivs ac.ks) := by
    by_cases he : ac.ks = []
    · rw [he]; exact Row.nil _ _
    · exact hKrow.mod k8 fun b hb => (t3.offLow (hklow he b hb)).1
  refine call_ (RCrash_ok w.heap.size g2 q2 vc L s ac.K ac.kn ac.kc ac.ks w8 t8.r (by rw [tw.ls]; omega) (hinv.lim (by omega)) hKrow8 hok.1.kn (fun hne b hb => (t8.offLow (hklow hne b hb)).2)) ?_
  rintro e w10 ⟨rfl, L10, r10, m10, f10⟩
  refine ⟨_, rfl, ?_⟩
  exact hK (vs8, L10) _ _ ⟨rfl, rfl, rfl, rfl, rfl, rfl, trivial⟩ ⟨t8.ref r10 hl8 m10 f10, t8.farR (t6.farD (nl3.trans n6) m8) m10⟩
end Go.Proofs.YtgfdpojpcpgddaaDoor.Disk
