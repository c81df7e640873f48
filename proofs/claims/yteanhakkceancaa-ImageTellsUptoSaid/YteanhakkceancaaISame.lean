/- larchbase.SameMachine of machines that are the same. Printed by gensame.py. -/
import Derived.Test.YteanhakkceancaaIReads
import Derived.Test.YteanhakkceancaaArr
import Derived.Test.YteanhakkceancaaEq
import Derived.Test.YteanhakkceancaaCell
import Derived.Test.YteanhakkceancaaDraw
import Derived.Test.YteanhakkceancaaTab
namespace Go.Proofs.Yteanhakkceancaa.Image
open Go Go.Proofs.Yteanhakkceancaa Go.Proofs.Yteanhakkceancaa.Eng Go.Proofs Go.Proofs.Yteanhakkceancaa.Word Go.Proofs.Yteanhakkceancaa.Fmt
set_option maxRecDepth 10000

/-- A list's members in memory. -/
theorem LRep.get {α : Type} {R : RepT α} {sz : Nat} {w : World} {S : Nat → Prop} {v : Value} {xs : List α} (hR : RepOk R sz) (hsz : 0 < sz) (h : LRep R w S v xs) :
    ∃ A c, v = .slice A xs.length c ∧ xs.length ≤ 17592186044416 ∧ ∀ i (hi : i < xs.length), ∃ a cs, A = some a ∧ R w S cs xs[i] ∧ ∀ k u, cs[k]? = some u → w.cell? ((a.add (i * sz)).add k) = some u := by
  obtain ⟨A, c, ts, rfl, rfl, _, _, h5, h6⟩ := h
  refine ⟨A, c, rfl, h5, fun i hi => ?_⟩
  have hi' : i < ts.length := by simpa using hi
  obtain ⟨a, ha, hc⟩ := h6.at_ hR hsz hi'
  refine ⟨a, ts[i].1, ha, ?_, hc⟩
  rw [List.getElem_map]
  exact h6.mem _ (List.getElem_mem hi')
theorem incN {i n : Nat} (h : i < n) (hn : n ≤ 17592186044416) : Value.int .i64 (IntKind.i64.wrap ((i : Int) + 1)) = .int .i64 ((i + 1 : Nat) : Int) := by
  rw [wrap_i64 (by omega) (by omega)]
  rfl
theorem SameInts_ok (v1 v2 : Value) (xs : List Int) (S1 S2 : Nat → Prop) (w : World) (h1 : LRep intR w S1 v1 xs) (h2 : LRep intR w S2 v2 xs) :
    Calls Try.prog 54 #[v1, v2] w fun e w' => e = .returned (.bool true) ∧ New w w' := by
  obtain ⟨A1, c1, rfl, hl, g1⟩ := h1.get intOk (by decide)
  obtain ⟨A2, c2, rfl, _, g2⟩ := h2.get intOk (by decide)
  refine enter ok Try.func54 rfl rfl rfl ?_
  refine if_n (fun h => absurd rfl h) (fun _ => ?_)
  refine den_loop (σ := Nat) (fun i => [(0, .slice A1 xs.length c1), (1, .slice A2 xs.length c2), (5, .int .i64 (i : Int))]) (fun m i wl => m + i = xs.length ∧ New w wl) xs.length 0 ⟨rfl, rfl, rfl, trivial⟩ ⟨rfl, New.refl _⟩ ?_
  rintro m i wl frl ⟨hfuel, kl⟩
  refine if_p (fun hlt => ?_) (fun hge => ?_)
  · replace hlt : (i : Int) < (xs.length : Int) := hlt
    have hi : i < xs.length := by omega
    obtain ⟨m, rfl⟩ : ∃ m', m = m' + 1 := ⟨m - 1, by omega⟩
    have inc := incN hi hl
    obtain ⟨a1, cs1, e1, x1, d1⟩ := g1 i hi
    obtain ⟨a2, cs2, e2, x2, d2⟩ := g2 i hi
    generalize xs[i] = x at x1 x2
    obtain rfl := x1
    obtain rfl := x2
    refine draw_ (w := wl) ok (.q 0 (.q 1 (.q 2 (.q 3 (.q 4 (.q 5 (.q 6 (.q 7 (.q 8 .done))))))))) [8] (New wl) (by kernel_rfl) (by kernel_rfl) (by kernel_rfl) (by kernel_rfl) (by kernel_rfl) (New.drew _) ?_
    refine And.intro (by omega) (And.intro hlt ?_)
    refine some_at e1 ?_
    refine Exists.intro x (And.intro (fun w'' hw => by have := (kl.trans hw).cell (d1 0 _ rfl); rw [add_zero_] at this; rw [Int.toNat_natCast]; exact this) ?_)
    refine And.intro (by omega) (And.intro hlt ?_)
    refine some_at e2 ?_
    refine Exists.intro x (And.intro (fun w'' hw => by have := (kl.trans hw).cell (d2 0 _ rfl); rw [add_zero_] at this; rw [Int.toNat_natCast]; exact this) ?_)
    refine if_n (fun h => absurd rfl h) (fun _ => ?_)
    exact ⟨m, i + 1, by omega, ⟨rfl, rfl, inc, trivial⟩, by omega, kl.trans (New.drew _)⟩
  · exact ⟨rfl, kl⟩
theorem SameValues_ok (v1 v2 : Value) (xs : List Val) (S1 S2 : Nat → Prop) (w : World) (h1 : LRep valR w S1 v1 xs) (h2 : LRep valR w S2 v2 xs) :
    Calls Try.prog 56 #[v1, v2] w fun e w' => e = .returned (.bool true) ∧ New w w' := by
  obtain ⟨A1, c1, rfl, hl, g1⟩ := h1.get valOk (by decide)
  obtain ⟨A2, c2, rfl, _, g2⟩ := h2.get valOk (by decide)
  refine enter ok Try.func56 rfl rfl rfl ?_
  refine if_n (fun h => absurd rfl h) (fun _ => ?_)
  refine den_loop (σ := Nat) (fun i => [(0, .slice A1 xs.length c1), (1, .slice A2 xs.length c2), (5, .int .i64 (i : Int))]) (fun m i wl => m + i = xs.length ∧ New w wl) xs.length 0 ⟨rfl, rfl, rfl, trivial⟩ ⟨rfl, New.refl _⟩ ?_
  rintro m i wl frl ⟨hfuel, kl⟩
  refine if_p (fun hlt => ?_) (fun hge => ?_)
  · replace hlt : (i : Int) < (xs.length : Int) := hlt
    have hi : i < xs.length := by omega
    obtain ⟨m, rfl⟩ : ∃ m', m = m' + 1 := ⟨m - 1, by omega⟩
    have inc := incN hi hl
    obtain ⟨a1, cs1, e1, x1, d1⟩ := g1 i hi
    obtain ⟨a2, cs2, e2, x2, d2⟩ := g2 i hi
    generalize xs[i] = x at x1 x2
    obtain rfl := x1
    obtain rfl := x2
    refine draw_ (w := wl) ok (.q 0 (.q 1 (.q 2 (.q 3 (.q 4 (.q 5 (.q 6 (.q 7 (.q 8 .done))))))))) [8] (New wl) (by kernel_rfl) (by kernel_rfl) (by kernel_rfl) (by kernel_rfl) (by kernel_rfl) (New.drew _) ?_
    refine And.intro (by omega) (And.intro hlt ?_)
    refine some_at e1 ?_
    refine loadNC_row (vs := [zi x.kind, zi x.n]) (fun j u hu w'' hw => by rw [Int.toNat_natCast]; exact (kl.trans hw).cell (d1 j u hu)) rfl ?_
    refine And.intro (by omega) (And.intro hlt ?_)
    refine some_at e2 ?_
    refine loadNC_row (vs := [zi x.kind, zi x.n]) (fun j u hu w'' hw => by rw [Int.toNat_natCast]; exact (kl.trans hw).cell (d2 j u hu)) rfl ?_
    refine Exists.intro (.bool (!(decide (x.kind = x.kind) && (decide (x.n = x.n) && true)))) (And.intro (fun w'' _ => agg_cmp ok rfl rfl rfl (by kernel_rfl) (by kernel_rfl) rfl rfl rfl (!(decide (x.kind = x.kind) && (decide (x.n = x.n) && true))) (.inr ⟨rfl, by exact rfl⟩) w'') ?_)
    refine if_no (by simp) ?_
    exact ⟨m, i + 1, by omega, ⟨rfl, rfl, inc, trivial⟩, by omega, kl.trans (New.drew _)⟩
  · exact ⟨rfl, kl⟩
theorem SameObjects_ok (v1 v2 : Value) (xs : List Obj) (S1 S2 : Nat → Prop) (w : World) (h1 : LRep objR w S1 v1 xs) (h2 : LRep objR w S2 v2 xs) :
    Calls Try.prog 55 #[v1, v2] w fun e w' => e = .returned (.bool true) ∧ New w w' := by
  obtain ⟨A1, c1, rfl, hl, g1⟩ := h1.get objOk (by decide)
  obtain ⟨A2, c2, rfl, _, g2⟩ := h2.get objOk (by decide)
  refine enter ok Try.func55 rfl rfl rfl ?_
  refine if_n (fun h => absurd rfl h) (fun _ => ?_)
  refine den_loop (σ := Nat) (fun i => [(0, .slice A1 xs.length c1), (1, .slice A2 xs.length c2), (5, .int .i64 (i : Int))]) (fun m i wl => m + i = xs.length ∧ New w wl) xs.length 0 ⟨rfl, rfl, rfl, trivial⟩ ⟨rfl, New.refl _⟩ ?_
  rintro m i wl frl ⟨hfuel, kl⟩
  refine if_p (fun hlt => ?_) (fun hge => ?_)
  · replace hlt : (i : Int) < (xs.length : Int) := hlt
    have hi : i < xs.length := by omega
    obtain ⟨m, rfl⟩ : ∃ m', m = m' + 1 := ⟨m - 1, by omega⟩
    have inc := incN hi hl
    obtain ⟨a1, cs1, e1, x1, d1⟩ := g1 i hi
    obtain ⟨a2, cs2, e2, x2, d2⟩ := g2 i hi
    generalize xs[i] = x at x1 x2
    obtain ⟨u1, rfl, l1⟩ := x1
    obtain ⟨u2, rfl, l2⟩ := x2
    have l1' := l1
    have l2' := l2
    obtain ⟨B1, b1, tz1, rfl, _⟩ := l1
    obtain ⟨B2, b2, tz2, rfl, _⟩ := l2
    refine draw_ (w := wl) ok (.q 0 (.q 1 (.q 2 (.q 3 (.q 4 (.q 5 (.q 6 (.q 7 (.q 8 (.q 9 (.q 10 (.q 11 (.q 12 (.q 13 (.q 14 (.q 15 (.q 16 (.q 17 (.q 18 (.q 19 (.q 20 (.q 21 (.e 22 (.q 23 (.q 24 .done))))))))))))))))))))))))) [24] (New wl) (by kernel_rfl) (by kernel_rfl) (by kernel_rfl) (by kernel_rfl) (by kernel_rfl) (New.drew _) ?_
    refine And.intro (by omega) (And.intro hlt ?_)
    refine some_at e1 ?_
    refine Exists.intro ⟨x.ty.toArray⟩ (And.intro (fun w'' hw => by rw [Int.toNat_natCast]; exact (kl.trans hw).cell (d1 0 _ rfl)) ?_)
    refine And.intro (by omega) (And.intro hlt ?_)
    refine some_at e2 ?_
    refine Exists.intro ⟨x.ty.toArray⟩ (And.intro (fun w'' hw => by rw [Int.toNat_natCast]; exact (kl.trans hw).cell (d2 0 _ rfl)) ?_)
    refine if_n (fun h => absurd rfl h) (fun _ => ?_)
    refine And.intro (by omega) (And.intro hlt ?_)
    refine some_at e1 ?_
    refine Exists.intro B1 (Exists.intro x.words.length (Exists.intro b1 (And.intro (fun w'' hw => by rw [Int.toNat_natCast]; exact (kl.trans hw).cell (d1 1 _ rfl)) ?_)))
    refine And.intro (by omega) (And.intro hlt ?_)
    refine some_at e2 ?_
    refine Exists.intro B2 (Exists.intro x.words.length (Exists.intro b2 (And.intro (fun w'' hw => by rw [Int.toNat_natCast]; exact (kl.trans hw).cell (d2 1 _ rfl)) ?_)))
    have kd := kl.trans (New.drew wl)
    refine call_ (SameValues_ok _ _ x.words S1 S2 wl.drew (LRep.mod valOk (by decide) l1' kd.mod) (LRep.mod valOk (by decide) l2' kd.mod)) ?_
    rintro e w3 ⟨rfl, n3⟩
    refine ⟨_, rfl, ?_⟩
    refine Exists.intro (New wl) (And.intro (fun _ h => h) (And.intro ((New.drew wl).trans n3) ?_))
    exact ⟨m, i + 1, by omega, ⟨rfl, rfl, inc, trivial⟩, by omega, kd.trans n3⟩
  · exact ⟨rfl, kl⟩
theorem SameCall_ok (cs1 cs2 : List Value) (x : Call) (S1 S2 : Nat → Prop) (w : World) (h1 : callR w S1 cs1 x) (h2 : callR w S2 cs2 x) :
    Calls Try.prog 76 #[.agg cs1.toArray, .agg cs2.toArray] w fun e w' => e = .returned (.bool true) ∧ New w w' := by
  obtain ⟨u1, v1, rfl, l1, k1⟩ := h1
  obtain ⟨u2, v2, rfl, l2, k2⟩ := h2
  have l1' := l1
  have l2' := l2
  have k1' := k1
  have k2' := k2
  obtain ⟨B1, b1, tz1, rfl, _⟩ := l1
  obtain ⟨B2, b2, tz2, rfl, _⟩ := l2
  obtain ⟨D1, q1, ty1, rfl, _⟩ := k1
  obtain ⟨D2, q2, ty2, rfl, _⟩ := k2
  refine enter ok Try.func76 rfl rfl rfl ?_
  have n1 := New.alloc w (.cells #[zi x.cl, zi x.me, zi x.at_, .slice B1 x.locals.length b1, .slice D1 x.stack.length q1, zi x.lock] 50)
  have n2 := New.alloc (w.alloc (.cells #[zi x.cl, zi x.me, zi x.at_, .slice B1 x.locals.length b1, .slice D1 x.stack.length q1, zi x.lock] 50)) (.cells #[zi x.cl, zi x.me, zi x.at_, .slice B2 x.locals.length b2, .slice D2 x.stack.length q2, zi x.lock] 50)
  have hb1 := n2.blk (heap_alloc_new w (.cells #[zi x.cl, zi x.me, zi x.at_, .slice B1 x.locals.length b1, .slice D1 x.stack.length q1, zi x.lock] 50))
  have hb2 := heap_alloc_new (w.alloc (.cells #[zi x.cl, zi x.me, zi x.at_, .slice B1 x.locals.length b1, .slice D1 x.stack.length q1, zi x.lock] 50)) (.cells #[zi x.cl, zi x.me, zi x.at_, .slice B2 x.locals.length b2, .slice D2 x.stack.length q2, zi x.lock] 50)
  have nn := n1.trans n2
  refine Exists.intro x.cl (And.intro (cellB hb1 rfl) ?_)
  refine Exists.intro x.cl (And.intro (cellB hb2 rfl) ?_)
  refine if_p (fun _ => ?_) (fun h => absurd rfl h)
  refine Exists.intro x.me (And.intro (cellB hb1 rfl) ?_)
  refine Exists.intro x.me (And.intro (cellB hb2 rfl) ?_)
  refine if_p (fun _ => ?_) (fun h => absurd rfl h)
  refine Exists.intro x.at_ (And.intro (cellB hb1 rfl) ?_)
  refine Exists.intro x.at_ (And.intro (cellB hb2 rfl) ?_)
  refine if_p (fun _ => ?_) (fun h => absurd rfl h)
  refine Exists.intro x.lock (And.intro (cellB hb1 rfl) ?_)
  refine Exists.intro x.lock (And.intro (cellB hb2 rfl) ?_)
  refine if_p (fun _ => ?_) (fun h => absurd rfl h)
  refine Exists.intro B1 (Exists.intro x.locals.length (Exists.intro b1 (And.intro (cellB hb1 rfl) ?_)))
  refine Exists.intro B2 (Exists.intro x.locals.length (Exists.intro b2 (And.intro (cellB hb2 rfl) ?_)))
  refine call_ (SameValues_ok _ _ x.locals S1 S2 _ (LRep.mod valOk (by decide) l1' nn.mod) (LRep.mod valOk (by decide) l2' nn.mod)) ?_
  rintro e w3 ⟨rfl, n3⟩
  refine ⟨_, rfl, ?_⟩
  have n13 := nn.trans n3
  refine Exists.intro D1 (Exists.intro x.stack.length (Exists.intro q1 (And.intro (cellB (n3.blk hb1) rfl) ?_)))
  refine Exists.intro D2 (Exists.intro x.stack.length (Exists.intro q2 (And.intro (cellB (n3.blk hb2) rfl) ?_)))
  refine call_ (SameValues_ok _ _ x.stack S1 S2 _ (LRep.mod valOk (by decide) k1' n13.mod) (LRep.mod valOk (by decide) k2' n13.mod)) ?_
  rintro e w4 ⟨rfl, n4⟩
  refine ⟨_, rfl, ?_⟩
  exact ⟨rfl, n13.trans n4⟩
theorem SameThreads_ok (v1 v2 : Value) (xs : List Thr) (S1 S2 : Nat → Prop) (w : World) (h1 : LRep thrR w S1 v1 xs) (h2 : LRep thrR w S2 v2 xs) :
    Calls Try.prog 57 #[v1, v2] w fun e w' => e = .returned (.bool true) ∧ New w w' := by
  obtain ⟨A1, c1, rfl, hl, g1⟩ := h1.get thrOk (by decide)
  obtain ⟨A2, c2, rfl, _, g2⟩ := h2.get thrOk (by decide)
  refine enter ok Try.func57 rfl rfl rfl ?_
  refine if_n (fun h => absurd rfl h) (fun _ => ?_)
  refine den_loop (σ := Nat) (fun i => [(0, .slice A1 xs.length c1), (1, .slice A2 xs.length c2), (5, .int .i64 (i : Int))]) (fun m i wl => m + i = xs.length ∧ New w wl) xs.length 0 ⟨rfl, rfl, rfl, trivial⟩ ⟨rfl, New.refl _⟩ ?_
  rintro m i wl frl ⟨hfuel, kl⟩
  refine if_p (fun hlt => ?_) (fun hge => ?_)
  · replace hlt : (i : Int) < (xs.length : Int) := hlt
    have hi : i < xs.length := by omega
    obtain ⟨m, rfl⟩ : ∃ m', m = m' + 1 := ⟨m - 1, by omega⟩
    have inc := incN hi hl
    obtain ⟨a1, cs1, e1, x1, d1⟩ := g1 i hi
    obtain ⟨a2, cs2, e2, x2, d2⟩ := g2 i hi
    generalize xs[i] = x at x1 x2
    obtain ⟨u1, rfl, l1⟩ := x1
    obtain ⟨u2, rfl, l2⟩ := x2
    obtain ⟨B1, b1, rfl, hk, q1⟩ := (LRep.mod callOk (by decide) l1 kl.mod).get callOk (by decide)
    obtain ⟨B2, b2, rfl, _, q2⟩ := (LRep.mod callOk (by decide) l2 kl.mod).get callOk (by decide)
    refine skip_ (thenF_ ?_)
    refine seq_ (block_ ?_)
    refine seq_cut (σ := Unit) (fun _ => [(0, .slice A1 xs.length c1), (1, .slice A2 xs.length c2), (5, .int .i64 (i : Int))]) (fun _ w' => New wl w') ?_ ?_
    rotate_left
    · intro K hK
      refine draw_ (w := wl) ok (.q 0 (.q 1 (.q 2 (.q 3 (.q 4 (.q 5 (.q 6 (.q 7 (.q 8 (.q 9 (.q 10 (.q 11 (.q 12 (.q 13 (.q 14 (.q 15 (.q 16 (.q 17 (.q 18 (.q 19 (.q 20 (.q 21 (.q 22 (.q 23 (.q 24 (.q 25 (.q 26 (.q 27 (.q 28 (.q 29 (.q 30 (.q 31 (.q 32 (.q 33 (.q 34 (.q 35 (.q 36 (.q 37 (.q 38 (.q 39 (.q 40 (.q 41 (.q 42 (.q 43 (.q 44 (.q 45 (.q 46 (.q 47 (.q 48 (.q 49 (.q 50 (.q 51 .done)))))))))))))))))))))))))))))))))))))))))))))))))))) [51] (New wl) (by kernel_rfl) (by kernel_rfl) (by kernel_rfl) (by kernel_rfl) (by kernel_rfl) (New.drew _) ?_
      refine And.intro (by omega) (And.intro hlt ?_)
      refine some_at e1 ?_
      refine Exists.intro x.state (And.intro (fun w'' hw => by rw [Int.toNat_natCast]; exact (kl.trans hw).cell (d1 0 _ rfl)) ?_)
      refine And.intro (by omega) (And.intro hlt ?_)
      refine some_at e2 ?_
      refine Exists.intro x.state (And.intro (fun w'' hw => by rw [Int.toNat_natCast]; exact (kl.trans hw).cell (d2 0 _ rfl)) ?_)
      refine if_n (fun h => absurd rfl h) (fun _ => ?_)
      refine And.intro (by omega) (And.intro hlt ?_)
      refine some_at e1 ?_
      refine Exists.intro x.on (And.intro (fun w'' hw => by rw [Int.toNat_natCast]; exact (kl.trans hw).cell (d1 2 _ rfl)) ?_)
      refine And.intro (by omega) (And.intro hlt ?_)
      refine some_at e2 ?_
      refine Exists.intro x.on (And.intro (fun w'' hw => by rw [Int.toNat_natCast]; exact (kl.trans hw).cell (d2 2 _ rfl)) ?_)
      refine if_n (fun h => absurd rfl h) (fun _ => ?_)
      refine And.intro (by omega) (And.intro hlt ?_)
      refine some_at e1 ?_
      refine Exists.intro x.count (And.intro (fun w'' hw => by rw [Int.toNat_natCast]; exact (kl.trans hw).cell (d1 3 _ rfl)) ?_)
      refine And.intro (by omega) (And.intro hlt ?_)
      refine some_at e2 ?_
      refine Exists.intro x.count (And.intro (fun w'' hw => by rw [Int.toNat_natCast]; exact (kl.trans hw).cell (d2 3 _ rfl)) ?_)
      refine if_n (fun h => absurd rfl h) (fun _ => ?_)
      refine And.intro (by omega) (And.intro hlt ?_)
      refine some_at e1 ?_
      refine Exists.intro B1 (Exists.intro x.calls.length (Exists.intro b1 (And.intro (fun w'' hw => by rw [Int.toNat_natCast]; exact (kl.trans hw).cell (d1 1 _ rfl)) ?_)))
      refine And.intro (by omega) (And.intro hlt ?_)
      refine some_at e2 ?_
      refine Exists.intro B2 (Exists.intro x.calls.length (Exists.intro b2 (And.intro (fun w'' hw => by rw [Int.toNat_natCast]; exact (kl.trans hw).cell (d2 1 _ rfl)) ?_)))
      refine if_n (fun h => absurd rfl h) (fun _ => ?_)
      exact hK () _ _ ⟨rfl, rfl, rfl, trivial⟩ (New.drew _)
    rintro _ w3 fr3 n3
    refine seq_assign ?_
    refine den_loop (σ := Nat) (fun k => [(0, .slice A1 xs.length c1), (1, .slice A2 xs.length c2), (5, .int .i64 (i : Int)), (6, .int .i64 (k : Int))]) (fun q k wk => q + k = x.calls.length ∧ New wl wk) x.calls.length 0 ⟨rfl, rfl, rfl, rfl, trivial⟩ ⟨rfl, n3⟩ ?_
    rintro q k wk frk ⟨hfuel2, kk⟩
    have klk := kl.trans kk
    refine And.intro (by omega) (And.intro hlt ?_)
    refine some_at e1 ?_
    refine Exists.intro B1 (Exists.intro x.calls.length (Exists.intro b1 (And.intro (by rw [Int.toNat_natCast]; exact klk.cell (d1 1 _ rfl)) ?_)))
    refine if_p (fun hlk => ?_) (fun hgk => ?_)
    · replace hlk : (k : Int) < (x.calls.length : Int) := hlk
      have hki : k < x.calls.length := by omega
      obtain ⟨q, rfl⟩ : ∃ q', q = q' + 1 := ⟨q - 1, by omega⟩
      have inck := incN hki hk
      obtain ⟨f1, cc1, g1', y1, h1'⟩ := q1 k hki
      obtain ⟨f2, cc2, g2', y2, h2'⟩ := q2 k hki
      have y1' := y1
      have y2' := y2
      have o1 := callOk.one y1
      have o2 := callOk.one y2
      generalize x.calls[k] = y at y1 y2 y1' y2'
      obtain ⟨r1, s1, rfl, z1, _⟩ := y1
      obtain ⟨r2, s2, rfl, z2, _⟩ := y2
      refine draw_ (w := wk) ok (.q 0 (.q 1 (.q 2 (.q 3 (.q 4 (.q 5 (.q 6 (.q 7 (.q 8 (.q 9 (.q 10 (.q 11 (.q 12 (.q 13 (.q 14 (.q 15 (.e 16 (.q 17 .done)))))))))))))))))) [17] (New wk) (by kernel_rfl) (by kernel_rfl) (by kernel_rfl) (by kernel_rfl) (by kernel_rfl) (New.drew _) ?_
      refine And.intro (by omega) (And.intro hlt ?_)
      refine some_at e1 ?_
      refine Exists.intro B1 (Exists.intro x.calls.length (Exists.intro b1 (And.intro (fun w'' hw => by rw [Int.toNat_natCast]; exact (klk.trans hw).cell (d1 1 _ rfl)) ?_)))
      refine And.intro (by omega) (And.intro hlk ?_)
      refine some_at g1' ?_
      refine loadNC_row (vs := [zi y.cl, zi y.me, zi y.at_, r1, s1, zi y.lock]) (fun j u hu w'' hw => by rw [Int.toNat_natCast]; exact (kk.trans hw).cell (h1' j u hu)) rfl ?_
      refine And.intro (by omega) (And.intro hlt ?_)
      refine some_at e2 ?_
      refine Exists.intro B2 (Exists.intro x.calls.length (Exists.intro b2 (And.intro (fun w'' hw => by rw [Int.toNat_natCast]; exact (klk.trans hw).cell (d2 1 _ rfl)) ?_)))
      refine And.intro (by omega) (And.intro hlk ?_)
      refine some_at g2' ?_
      refine loadNC_row (vs := [zi y.cl, zi y.me, zi y.at_, r2, s2, zi y.lock]) (fun j u hu w'' hw => by rw [Int.toNat_natCast]; exact (kk.trans hw).cell (h2' j u hu)) rfl ?_
      have kd := kk.trans (New.drew wk)
      refine call_ (SameCall_ok _ _ y S1 S2 wk.drew (callOk.mod y1' kd.mod) (callOk.mod y2' kd.mod)) ?_
      rintro e w5 ⟨rfl, n5⟩
      refine ⟨_, rfl, ?_⟩
      refine Exists.intro (New wk) (And.intro (fun _ h => h) (And.intro ((New.drew wk).trans n5) ?_))
      exact ⟨q, k + 1, by omega, ⟨rfl, rfl, rfl, inck, trivial⟩, by omega, kd.trans n5⟩
    · exact ⟨m, i + 1, by omega, ⟨rfl, rfl, inc, trivial⟩, by omega, klk⟩
  · exact ⟨rfl, kl⟩
theorem SameMachine_ok (cs1 cs2 : List Value) (m : Mach) (S1 S2 : Nat → Prop) (w : World) (h1 : machR w S1 cs1 m) (h2 : machR w S2 cs2 m) :
    Calls Try.prog 15 #[.agg cs1.toArray, .agg cs2.toArray] w fun e w' => e = .returned (.bool true) ∧ New w w' := by
  obtain ⟨_, _, _, _, _, _, rfl, LO1, LT1, LH1, LM1, LI1, LU1⟩ := h1
  have LLO1 := LO1
  obtain ⟨O1, o1, _, rfl, _⟩ := LLO1
  have LLT1 := LT1
  obtain ⟨T1, t1, _, rfl, _⟩ := LLT1
  have LLH1 := LH1
  obtain ⟨H1, h1, _, rfl, _⟩ := LLH1
  have LLM1 := LM1
  obtain ⟨M1, m1, _, rfl, _⟩ := LLM1
  have LLI1 := LI1
  obtain ⟨I1, i1, _, rfl, _⟩ := LLI1
  have LLU1 := LU1
  obtain ⟨U1, u1, _, rfl, _⟩ := LLU1
  obtain ⟨_, _, _, _, _, _, rfl, LO2, LT2, LH2, LM2, LI2, LU2⟩ := h2
  have LLO2 := LO2
  obtain ⟨O2, o2, _, rfl, _⟩ := LLO2
  have LLT2 := LT2
  obtain ⟨T2, t2, _, rfl, _⟩ := LLT2
  have LLH2 := LH2
  obtain ⟨H2, h2, _, rfl, _⟩ := LLH2
  have LLM2 := LM2
  obtain ⟨M2, m2, _, rfl, _⟩ := LLM2
  have LLI2 := LI2
  obtain ⟨I2, i2, _, rfl, _⟩ := LLI2
  have LLU2 := LU2
  obtain ⟨U2, u2, _, rfl, _⟩ := LLU2
  refine enter ok Try.func15 rfl rfl rfl ?_
  refine seq_cut (σ := Unit) (fun _ => [(2, .pointer (some ⟨w.heap.size, 0, none⟩)), (3, .pointer (some ⟨w.heap.size + 1, 0, none⟩))]) (fun _ w' => New w w' ∧ w'.heap[w.heap.size]? = some (.cells #[zi m.status, .slice O1 m.objs.length o1, .slice T1 m.statics.length t1, .slice H1 m.thrs.length h1, .slice M1 m.mons.length m1, zi m.read, .slice I1 m.ins.length i1, .slice U1 m.outs.length u1, zi m.gone, zi m.steps] 28 (0, 0)) ∧ w'.heap[w.heap.size + 1]? = some (.cells #[zi m.status, .slice O2 m.objs.length o2, .slice T2 m.statics.length t2, .slice H2 m.thrs.length h2, .slice M2 m.mons.length m2, zi m.read, .slice I2 m.ins.length i2, .slice U2 m.outs.length u2, zi m.gone, zi m.steps] 28 (0, 0))) ?_ ?_
  rotate_left
  · intro K hK
    have n1 := New.alloc w (.cells #[zi m.status, .slice O1 m.objs.length o1, .slice T1 m.statics.length t1, .slice H1 m.thrs.length h1, .slice M1 m.mons.length m1, zi m.read, .slice I1 m.ins.length i1, .slice U1 m.outs.length u1, zi m.gone, zi m.steps] 28)
    have n2 := New.alloc (w.alloc (.cells #[zi m.status, .slice O1 m.objs.length o1, .slice T1 m.statics.length t1, .slice H1 m.thrs.length h1, .slice M1 m.mons.length m1, zi m.read, .slice I1 m.ins.length i1, .slice U1 m.outs.length u1, zi m.gone, zi m.steps] 28)) (.cells #[zi m.status, .slice O2 m.objs.length o2, .slice T2 m.statics.length t2, .slice H2 m.thrs.length h2, .slice M2 m.mons.length m2, zi m.read, .slice I2 m.ins.length i2, .slice U2 m.outs.length u2, zi m.gone, zi m.steps] 28)
    have hb2 := heap_alloc_new (w.alloc (.cells #[zi m.status, .slice O1 m.objs.length o1, .slice T1 m.statics.length t1, .slice H1 m.thrs.length h1, .slice M1 m.mons.length m1, zi m.read, .slice I1 m.ins.length i1, .slice U1 m.outs.length u1, zi m.gone, zi m.steps] 28)) (.cells #[zi m.status, .slice O2 m.objs.length o2, .slice T2 m.statics.length t2, .slice H2 m.thrs.length h2, .slice M2 m.mons.length m2, zi m.read, .slice I2 m.ins.length i2, .slice U2 m.outs.length u2, zi m.gone, zi m.steps] 28)
    have z1 : (w.alloc (.cells #[zi m.status, .slice O1 m.objs.length o1, .slice T1 m.statics.length t1, .slice H1 m.thrs.length h1, .slice M1 m.mons.length m1, zi m.read, .slice I1 m.ins.length i1, .slice U1 m.outs.length u1, zi m.gone, zi m.steps] 28)).heap.size = w.heap.size + 1 := by simp
    rw [z1] at hb2
    exact hK () _ _ ⟨rfl, (show Value.pointer (some ⟨(w.alloc (.cells #[zi m.status, .slice O1 m.objs.length o1, .slice T1 m.statics.length t1, .slice H1 m.thrs.length h1, .slice M1 m.mons.length m1, zi m.read, .slice I1 m.ins.length i1, .slice U1 m.outs.length u1, zi m.gone, zi m.steps] 28)).heap.size, 0, none⟩) = _ by rw [z1]), trivial⟩ ⟨n1.trans n2, n2.blk (heap_alloc_new w (.cells #[zi m.status, .slice O1 m.objs.length o1, .slice T1 m.statics.length t1, .slice H1 m.thrs.length h1, .slice M1 m.mons.length m1, zi m.read, .slice I1 m.ins.length i1, .slice U1 m.outs.length u1, zi m.gone, zi m.steps] 28)), hb2⟩
  rintro _ wa fra ⟨na, ha1, ha2⟩
  obtain ⟨b1, hb1⟩ : ∃ b, b = w.heap.size := ⟨_, rfl⟩
  obtain ⟨b2, hb2⟩ : ∃ b, b = w.heap.size + 1 := ⟨_, rfl⟩
  rw [← hb2] at ha2 ⊢
  rw [← hb1] at ha1 ⊢
  refine seq_cut (σ := Unit) (fun _ => [(2, .pointer (some ⟨b1, 0, none⟩)), (3, .pointer (some ⟨b2, 0, none⟩))]) (fun _ w' => w' = wa) ?_ ?_
  rotate_left
  · intro K hK
    refine Exists.intro M1 (Exists.intro m.mons.length (Exists.intro m1 (And.intro (cellB ha1 rfl) ?_)))
    refine Exists.intro M2 (Exists.intro m.mons.length (Exists.intro m2 (And.intro (cellB ha2 rfl) ?_)))
    refine if_n (fun h => absurd rfl h) (fun _ => ?_)
    exact hK () _ _ ⟨rfl, rfl, trivial⟩ rfl
  rintro _ wb frb hwb
  obtain rfl := hwb.symm
  obtain ⟨_, _, he1, hl, g1⟩ := LM1.get monOk (by decide)
  obtain ⟨_, _, he2, _, g2⟩ := LM2.get monOk (by decide)
  cases he1
  cases he2
  refine seq_cut (σ := Unit) (fun _ => [(2, .pointer (some ⟨b1, 0, none⟩)), (3, .pointer (some ⟨b2, 0, none⟩))]) (fun _ w' => New wa w') ?_ ?_
  rotate_left
  · intro K hK
    refine seq_assign ?_
    refine den_loop (σ := Nat) (fun i => [(2, .pointer (some ⟨b1, 0, none⟩)), (3, .pointer (some ⟨b2, 0, none⟩)), (5, .int .i64 (i : Int))]) (fun q i wl => q + i = m.mons.length ∧ New wa wl) m.mons.length 0 ⟨rfl, rfl, rfl, trivial⟩ ⟨rfl, New.refl _⟩ ?_
    rintro q i wl frl ⟨hfuel, kl⟩
    refine Exists.intro M1 (Exists.intro m.mons.length (Exists.intro m1 (And.intro (cellB (kl.blk ha1) rfl) ?_)))
    refine if_p (fun hlt => ?_) (fun hge => ?_)
    · replace hlt : (i : Int) < (m.mons.length : Int) := hlt
      have hi : i < m.mons.length := by omega
      obtain ⟨q, rfl⟩ : ∃ q', q = q' + 1 := ⟨q - 1, by omega⟩
      have inc := incN hi hl
      obtain ⟨a1, cs1, e1, x1, d1⟩ := g1 i hi
      obtain ⟨a2, cs2, e2, x2, d2⟩ := g2 i hi
      generalize m.mons[i] = x at x1 x2
      obtain rfl := x1
      obtain rfl := x2
      have kw := na.trans kl
      refine draw_ (w := wl) ok (.q 0 (.q 1 (.q 2 (.q 3 (.q 4 (.q 5 (.q 6 (.q 7 (.q 8 (.q 9 (.q 10 .done))))))))))) [10] (New wl) (by kernel_rfl) (by kernel_rfl) (by kernel_rfl) (by kernel_rfl) (by kernel_rfl) (New.drew _) ?_
      refine Exists.intro M1 (Exists.intro m.mons.length (Exists.intro m1 (And.intro (fun w'' hw => cellB ((kl.trans hw).blk ha1) rfl) ?_)))
      refine And.intro (by omega) (And.intro hlt ?_)
      refine some_at e1 ?_
      refine loadNC_row (vs := [zi x.ob, zi x.owner, zi x.count]) (fun j u hu w'' hw => by rw [Int.toNat_natCast]; exact (kw.trans hw).cell (d1 j u hu)) rfl ?_
      refine Exists.intro M2 (Exists.intro m.mons.length (Exists.intro m2 (And.intro (fun w'' hw => cellB ((kl.trans hw).blk ha2) rfl) ?_)))
      refine And.intro (by omega) (And.intro hlt ?_)
      refine some_at e2 ?_
      refine loadNC_row (vs := [zi x.ob, zi x.owner, zi x.count]) (fun j u hu w'' hw => by rw [Int.toNat_natCast]; exact (kw.trans hw).cell (d2 j u hu)) rfl ?_
      refine Exists.intro (.bool (!(decide (x.ob = x.ob) && (decide (x.owner = x.owner) && (decide (x.count = x.count) && true))))) (And.intro (fun w'' _ => agg_cmp ok rfl rfl rfl (by kernel_rfl) (by kernel_rfl) rfl rfl rfl (!(decide (x.ob = x.ob) && (decide (x.owner = x.owner) && (decide (x.count = x.count) && true)))) (.inr ⟨rfl, by exact rfl⟩) w'') ?_)
      refine if_no (by simp) ?_
      exact ⟨q, i + 1, by omega, ⟨rfl, rfl, inc, trivial⟩, by omega, kl.trans (New.drew _)⟩
    · exact hK () _ _ ⟨rfl, rfl, trivial⟩ kl
  rintro _ wc frc nc
  have kl : New w wa := na
  have K0 : New wa wc := nc
  have hc1 := K0.blk ha1
  have hc2 := K0.blk ha2
  refine Exists.intro m.status (And.intro (cellB hc1 rfl) ?_)
  refine Exists.intro m.status (And.intro (cellB hc2 rfl) ?_)
  refine if_p (fun _ => ?_) (fun h => absurd rfl h)
  refine Exists.intro m.read (And.intro (cellB hc1 rfl) ?_)
  refine Exists.intro m.read (And.intro (cellB hc2 rfl) ?_)
  refine if_p (fun _ => ?_) (fun h => absurd rfl h)
  refine Exists.intro m.gone (And.intro (cellB hc1 rfl) ?_)
  refine Exists.intro m.gone (And.intro (cellB hc2 rfl) ?_)
  refine if_p (fun _ => ?_) (fun h => absurd rfl h)
  refine Exists.intro I1 (Exists.intro m.ins.length (Exists.intro i1 (And.intro (cellB hc1 rfl) ?_)))
  refine Exists.intro I2 (Exists.intro m.ins.length (Exists.intro i2 (And.intro (cellB hc2 rfl) ?_)))
  refine call_ (SameInts_ok _ _ m.ins S1 S2 _ (LRep.mod intOk (by decide) LI1 (kl.trans K0).mod) (LRep.mod intOk (by decide) LI2 (kl.trans K0).mod)) ?_
  rintro e wn1 ⟨rfl, nn1⟩
  refine ⟨_, rfl, ?_⟩
  have K1 := K0.trans nn1
  have hd1 := nn1.blk hc1
  have hd2 := nn1.blk hc2
  refine Exists.intro m.steps (And.intro (cellB hd1 rfl) ?_)
  refine Exists.intro m.steps (And.intro (cellB hd2 rfl) ?_)
  refine if_p (fun _ => ?_) (fun h => absurd rfl h)
  refine Exists.intro U1 (Exists.intro m.outs.length (Exists.intro u1 (And.intro (cellB (nn1.blk hc1) rfl) ?_)))
  refine Exists.intro U2 (Exists.intro m.outs.length (Exists.intro u2 (And.intro (cellB (nn1.blk hc2) rfl) ?_)))
  refine call_ (SameInts_ok _ _ m.outs S1 S2 _ (LRep.mod intOk (by decide) LU1 (kl.trans K1).mod) (LRep.mod intOk (by decide) LU2 (kl.trans K1).mod)) ?_
  rintro e wn2 ⟨rfl, nn2⟩
  refine ⟨_, rfl, ?_⟩
  have K2 := K1.trans nn2
  have M2' := nn1.trans nn2
  refine Exists.intro O1 (Exists.intro m.objs.length (Exists.intro o1 (And.intro (cellB (M2'.blk hc1) rfl) ?_)))
  refine Exists.intro O2 (Exists.intro m.objs.length (Exists.intro o2 (And.intro (cellB (M2'.blk hc2) rfl) ?_)))
  refine call_ (SameObjects_ok _ _ m.objs S1 S2 _ (LRep.mod objOk (by decide) LO1 (kl.trans K2).mod) (LRep.mod objOk (by decide) LO2 (kl.trans K2).mod)) ?_
  rintro e wn3 ⟨rfl, nn3⟩
  refine ⟨_, rfl, ?_⟩
  have K3 := K2.trans nn3
  have M3' := M2'.trans nn3
  refine Exists.intro T1 (Exists.intro m.statics.length (Exists.intro t1 (And.intro (cellB (M3'.blk hc1) rfl) ?_)))
  refine Exists.intro T2 (Exists.intro m.statics.length (Exists.intro t2 (And.intro (cellB (M3'.blk hc2) rfl) ?_)))
  refine call_ (SameValues_ok _ _ m.statics S1 S2 _ (LRep.mod valOk (by decide) LT1 (kl.trans K3).mod) (LRep.mod valOk (by decide) LT2 (kl.trans K3).mod)) ?_
  rintro e wn4 ⟨rfl, nn4⟩
  refine ⟨_, rfl, ?_⟩
  have K4 := K3.trans nn4
  have M4' := M3'.trans nn4
  refine Exists.intro H1 (Exists.intro m.thrs.length (Exists.intro h1 (And.intro (cellB (M4'.blk hc1) rfl) ?_)))
  refine Exists.intro H2 (Exists.intro m.thrs.length (Exists.intro h2 (And.intro (cellB (M4'.blk hc2) rfl) ?_)))
  refine call_ (SameThreads_ok _ _ m.thrs S1 S2 _ (LRep.mod thrOk (by decide) LH1 (kl.trans K4).mod) (LRep.mod thrOk (by decide) LH2 (kl.trans K4).mod)) ?_
  rintro e wn5 ⟨rfl, nn5⟩
  refine ⟨_, rfl, ?_⟩
  have K5 := K4.trans nn5
  exact ⟨rfl, kl.trans K5⟩
end Go.Proofs.Yteanhakkceancaa.Image
