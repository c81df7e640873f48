/- The texts KSame, KBack behind one another, merged by mrg.py; each says in its own place what it proves. -/
import Derived.Test.YtdcaafldnbcdkaaDoorGB4

/-! ### KSame -/
namespace Go.Proofs.YtdcaafldnbcdkaaDoor.Class
open Go Go.Proofs.YtdcaafldnbcdkaaDoor Go.Proofs.YtdcaafldnbcdkaaDoor.Eng Go.Proofs Go.Proofs.YtdcaafldnbcdkaaDoor.Word Go.Proofs.YtdcaafldnbcdkaaDoor.Fmt
open Go.Proofs.YtdcaafldnbcdkaaDoor.Pool (Ent at_ poolF strV entC entV EntOk Pl OkPool both own_low tagAt)
set_option maxRecDepth 10000
theorem SameTypes_ok (v1 v2 : Value) (xs : List Ty) (S1 S2 : Nat → Prop) (w : World) (h1 : LRep tyR w S1 v1 xs) (h2 : LRep tyR w S2 v2 xs) :
    Calls Tryd.prog 69 #[v1, v2] w fun e w' => e = .returned (.bool true) ∧ New w w' := by
  obtain ⟨A1, c1, rfl, hl, g1⟩ := h1.get tyOk (by decide)
  obtain ⟨A2, c2, rfl, _, g2⟩ := h2.get tyOk (by decide)
  refine enter ok Tryd.func69 rfl rfl rfl ?_
  refine if_n (fun h => absurd rfl h) (fun _ => ?_)
  refine den_loop (σ := Nat) (fun i => [(0, .slice A1 xs.length c1), (1, .slice A2 xs.length c2), (5, .int .i64 (i : Int))]) (fun m i wl => m + i = xs.length ∧ New w wl) xs.length 0 ⟨rfl, rfl, rfl, trivial⟩ ⟨rfl, New.refl _⟩ ?_
  rintro m i wl frl ⟨hfuel, kl⟩
  refine if_p (fun hlt => ?_) (fun hge => ?_)
  · replace hlt : (i : Int) < (xs.length : Int) := hlt
    have hi : i < xs.length := by omega
    obtain ⟨m, rfl⟩ : ∃ m', m = m' + 1 := ⟨m - 1, by omega⟩
    have inc := incN hi hl
    obtain ⟨a1, cs1, e1, x1, d1⟩ := g1 i hi
    obtain ⟨a2, cs2, e2, x2, d2⟩ := g2 i hi
    generalize xs[i] = x at x1 x2
    obtain rfl := x1
    obtain rfl := x2
    refine draw_ (w := wl) ok (.q 0 (.q 1 (.q 2 (.q 3 (.q 4 (.q 5 (.q 6 (.q 7 (.q 8 .done))))))))) [8] (New wl) (by kernel_rfl) (by kernel_rfl) (by kernel_rfl) (by kernel_rfl) (by kernel_rfl) (New.drew _) ?_
    refine And.intro (by omega) (And.intro hlt ?_)
    refine some_at e1 ?_
    refine loadNC_row (vs := [zi x.kind, strV x.name]) (fun j u hu w'' hw => by rw [Int.toNat_natCast]; exact (kl.trans hw).cell (d1 j u hu)) rfl ?_
    refine And.intro (by omega) (And.intro hlt ?_)
    refine some_at e2 ?_
    refine loadNC_row (vs := [zi x.kind, strV x.name]) (fun j u hu w'' hw => by rw [Int.toNat_natCast]; exact (kl.trans hw).cell (d2 j u hu)) rfl ?_
    refine Exists.intro (.bool (!(decide (x.kind = x.kind) && (decide ((⟨x.name.toArray⟩ : ByteArray) = ⟨x.name.toArray⟩) && true)))) (And.intro (fun w'' _ => agg_cmp ok rfl rfl rfl (by kernel_rfl) (by kernel_rfl) rfl rfl rfl (!(decide (x.kind = x.kind) && (decide ((⟨x.name.toArray⟩ : ByteArray) = ⟨x.name.toArray⟩) && true))) (.inr ⟨rfl, by exact rfl⟩) w'') ?_)
    refine if_no (by simp) ?_
    exact ⟨m, i + 1, by omega, ⟨rfl, rfl, inc, trivial⟩, by omega, kl.trans (New.drew _)⟩
  · exact ⟨rfl, kl⟩
theorem SameHandlers_ok (v1 v2 : Value) (xs : List Hnd) (S1 S2 : Nat → Prop) (w : World) (h1 : LRep hndR w S1 v1 xs) (h2 : LRep hndR w S2 v2 xs) :
    Calls Tryd.prog 32 #[v1, v2] w fun e w' => e = .returned (.bool true) ∧ New w w' := by
  obtain ⟨A1, c1, rfl, hl, g1⟩ := h1.get hndOk (by decide)
  obtain ⟨A2, c2, rfl, _, g2⟩ := h2.get hndOk (by decide)
  refine enter ok Tryd.func32 rfl rfl rfl ?_
  refine if_n (fun h => absurd rfl h) (fun _ => ?_)
  refine den_loop (σ := Nat) (fun i => [(0, .slice A1 xs.length c1), (1, .slice A2 xs.length c2), (5, .int .i64 (i : Int))]) (fun m i wl => m + i = xs.length ∧ New w wl) xs.length 0 ⟨rfl, rfl, rfl, trivial⟩ ⟨rfl, New.refl _⟩ ?_
  rintro m i wl frl ⟨hfuel, kl⟩
  refine if_p (fun hlt => ?_) (fun hge => ?_)
  · replace hlt : (i : Int) < (xs.length : Int) := hlt
    have hi : i < xs.length := by omega
    obtain ⟨m, rfl⟩ : ∃ m', m = m' + 1 := ⟨m - 1, by omega⟩
    have inc := incN hi hl
    obtain ⟨a1, cs1, e1, x1, d1⟩ := g1 i hi
    obtain ⟨a2, cs2, e2, x2, d2⟩ := g2 i hi
    generalize xs[i] = x at x1 x2
    obtain rfl := x1
    obtain rfl := x2
    refine draw_ (w := wl) ok (.q 0 (.q 1 (.q 2 (.q 3 (.q 4 (.q 5 (.q 6 (.q 7 (.q 8 .done))))))))) [8] (New wl) (by kernel_rfl) (by kernel_rfl) (by kernel_rfl) (by kernel_rfl) (by kernel_rfl) (New.drew _) ?_
    refine And.intro (by omega) (And.intro hlt ?_)
    refine some_at e1 ?_
    refine loadNC_row (vs := [zi x.from_, zi x.to, zi x.at_, zi x.cls]) (fun j u hu w'' hw => by rw [Int.toNat_natCast]; exact (kl.trans hw).cell (d1 j u hu)) rfl ?_
    refine And.intro (by omega) (And.intro hlt ?_)
    refine some_at e2 ?_
    refine loadNC_row (vs := [zi x.from_, zi x.to, zi x.at_, zi x.cls]) (fun j u hu w'' hw => by rw [Int.toNat_natCast]; exact (kl.trans hw).cell (d2 j u hu)) rfl ?_
    refine Exists.intro (.bool (!(decide (x.from_ = x.from_) && (decide (x.to = x.to) && (decide (x.at_ = x.at_) && (decide (x.cls = x.cls) && true)))))) (And.intro (fun w'' _ => agg_cmp ok rfl rfl rfl (by kernel_rfl) (by kernel_rfl) rfl rfl rfl (!(decide (x.from_ = x.from_) && (decide (x.to = x.to) && (decide (x.at_ = x.at_) && (decide (x.cls = x.cls) && true))))) (.inr ⟨rfl, by exact rfl⟩) w'') ?_)
    refine if_no (by simp) ?_
    exact ⟨m, i + 1, by omega, ⟨rfl, rfl, inc, trivial⟩, by omega, kl.trans (New.drew _)⟩
  · exact ⟨rfl, kl⟩
theorem SameFields_ok (v1 v2 : Value) (xs : List Fld) (S1 S2 : Nat → Prop) (w : World) (h1 : LRep fldR w S1 v1 xs) (h2 : LRep fldR w S2 v2 xs) :
    Calls Tryd.prog 31 #[v1, v2] w fun e w' => e = .returned (.bool true) ∧ New w w' := by
  obtain ⟨A1, c1, rfl, hl, g1⟩ := h1.get fldOk (by decide)
  obtain ⟨A2, c2, rfl, _, g2⟩ := h2.get fldOk (by decide)
  refine enter ok Tryd.func31 rfl rfl rfl ?_
  refine if_n (fun h => absurd rfl h) (fun _ => ?_)
  refine den_loop (σ := Nat) (fun i => [(0, .slice A1 xs.length c1), (1, .slice A2 xs.length c2), (5, .int .i64 (i : Int))]) (fun m i wl => m + i = xs.length ∧ New w wl) xs.length 0 ⟨rfl, rfl, rfl, trivial⟩ ⟨rfl, New.refl _⟩ ?_
  rintro m i wl frl ⟨hfuel, kl⟩
  refine if_p (fun hlt => ?_) (fun hge => ?_)
  · replace hlt : (i : Int) < (xs.length : Int) := hlt
    have hi : i < xs.length := by omega
    obtain ⟨m, rfl⟩ : ∃ m', m = m' + 1 := ⟨m - 1, by omega⟩
    have inc := incN hi hl
    obtain ⟨a1, cs1, e1, x1, d1⟩ := g1 i hi
    obtain ⟨a2, cs2, e2, x2, d2⟩ := g2 i hi
    generalize xs[i] = x at x1 x2
    obtain rfl := x1
    obtain rfl := x2
    refine draw_ (w := wl) ok (.q 0 (.q 1 (.q 2 (.q 3 (.q 4 (.q 5 (.q 6 (.q 7 (.q 8 .done))))))))) [8] (New wl) (by kernel_rfl) (by kernel_rfl) (by kernel_rfl) (by kernel_rfl) (by kernel_rfl) (New.drew _) ?_
    refine And.intro (by omega) (And.intro hlt ?_)
    refine some_at e1 ?_
    refine loadNC_row (vs := [zi x.acc, strV x.name, strV x.typ]) (fun j u hu w'' hw => by rw [Int.toNat_natCast]; exact (kl.trans hw).cell (d1 j u hu)) rfl ?_
    refine And.intro (by omega) (And.intro hlt ?_)
    refine some_at e2 ?_
    refine loadNC_row (vs := [zi x.acc, strV x.name, strV x.typ]) (fun j u hu w'' hw => by rw [Int.toNat_natCast]; exact (kl.trans hw).cell (d2 j u hu)) rfl ?_
    refine Exists.intro (.bool (!(decide (x.acc = x.acc) && (decide ((⟨x.name.toArray⟩ : ByteArray) = ⟨x.name.toArray⟩) && (decide ((⟨x.typ.toArray⟩ : ByteArray) = ⟨x.typ.toArray⟩) && true))))) (And.intro (fun w'' _ => agg_cmp ok rfl rfl rfl (by kernel_rfl) (by kernel_rfl) rfl rfl rfl (!(decide (x.acc = x.acc) && (decide ((⟨x.name.toArray⟩ : ByteArray) = ⟨x.name.toArray⟩) && (decide ((⟨x.typ.toArray⟩ : ByteArray) = ⟨x.typ.toArray⟩) && true)))) (.inr ⟨rfl, by exact rfl⟩) w'') ?_)
    refine if_no (by simp) ?_
    exact ⟨m, i + 1, by omega, ⟨rfl, rfl, inc, trivial⟩, by omega, kl.trans (New.drew _)⟩
  · exact ⟨rfl, kl⟩
theorem SameMaps_ok (v1 v2 : Value) (xs : List Mp) (S1 S2 : Nat → Prop) (w : World) (h1 : LRep mpR w S1 v1 xs) (h2 : LRep mpR w S2 v2 xs) :
    Calls Tryd.prog 33 #[v1, v2] w fun e w' => e = .returned (.bool true) ∧ New w w' := by
  obtain ⟨A1, c1, rfl, hl, g1⟩ := h1.get mpOk (by decide)
  obtain ⟨A2, c2, rfl, _, g2⟩ := h2.get mpOk (by decide)
  refine enter ok Tryd.func33 rfl rfl rfl ?_
  refine if_n (fun h => absurd rfl h) (fun _ => ?_)
  refine den_loop (σ := Nat) (fun i => [(0, .slice A1 xs.length c1), (1, .slice A2 xs.length c2), (5, .int .i64 (i : Int))]) (fun m i wl => m + i = xs.length ∧ New w wl) xs.length 0 ⟨rfl, rfl, rfl, trivial⟩ ⟨rfl, New.refl _⟩ ?_
  rintro m i wl frl ⟨hfuel, kl⟩
  refine if_p (fun hlt => ?_) (fun hge => ?_)
  · replace hlt : (i : Int) < (xs.length : Int) := hlt
    have hi : i < xs.length := by omega
    obtain ⟨m, rfl⟩ : ∃ m', m = m' + 1 := ⟨m - 1, by omega⟩
    have inc := incN hi hl
    obtain ⟨a1, cs1, e1, x1, d1⟩ := g1 i hi
    obtain ⟨a2, cs2, e2, x2, d2⟩ := g2 i hi
    generalize xs[i] = x at x1 x2
    obtain ⟨_, _, rfl, l1, k1⟩ := x1
    obtain ⟨_, _, rfl, l2, k2⟩ := x2
    obtain ⟨B1, b1, rfl, _⟩ := l1.get tyOk (by decide)
    obtain ⟨B2, b2, rfl, _⟩ := l2.get tyOk (by decide)
    obtain ⟨D1, q1, rfl, _⟩ := k1.get tyOk (by decide)
    obtain ⟨D2, q2, rfl, _⟩ := k2.get tyOk (by decide)
    refine draw_ (w := wl) ok (.q 0 (.q 1 (.q 2 (.q 3 (.q 4 (.q 5 (.q 6 (.q 7 (.q 8 (.q 9 (.q 10 (.q 11 (.q 12 (.q 13 (.q 14 (.q 15 (.q 16 (.q 17 (.q 18 (.q 19 (.q 20 (.q 21 (.e 22 (.q 23 (.q 24 (.q 25 (.q 26 (.q 27 (.q 28 (.q 29 (.q 30 (.q 31 (.q 32 (.q 33 (.q 34 (.q 35 (.e 36 (.q 37 (.q 38 .done))))))))))))))))))))))))))))))))))))))) [38] (New wl) (by kernel_rfl) (by kernel_rfl) (by kernel_rfl) (by kernel_rfl) (by kernel_rfl) (New.drew _) ?_
    refine And.intro (by omega) (And.intro hlt ?_)
    refine some_at e1 ?_
    refine Exists.intro x.at_ (And.intro (fun w'' hw => by rw [Int.toNat_natCast]; exact (kl.trans hw).cell (d1 0 _ rfl)) ?_)
    refine And.intro (by omega) (And.intro hlt ?_)
    refine some_at e2 ?_
    refine Exists.intro x.at_ (And.intro (fun w'' hw => by rw [Int.toNat_natCast]; exact (kl.trans hw).cell (d2 0 _ rfl)) ?_)
    refine if_n (fun h => absurd rfl h) (fun _ => ?_)
    have kd := kl.trans (New.drew wl)
    refine And.intro (by omega) (And.intro hlt ?_)
    refine some_at e1 ?_
    refine Exists.intro B1 (Exists.intro x.locals.length (Exists.intro b1 (And.intro (fun w'' hw => by rw [Int.toNat_natCast]; exact (kl.trans hw).cell (d1 1 _ rfl)) ?_)))
    refine And.intro (by omega) (And.intro hlt ?_)
    refine some_at e2 ?_
    refine Exists.intro B2 (Exists.intro x.locals.length (Exists.intro b2 (And.intro (fun w'' hw => by rw [Int.toNat_natCast]; exact (kl.trans hw).cell (d2 1 _ rfl)) ?_)))
    refine call_ (SameTypes_ok _ _ x.locals S1 S2 wl.drew (LRep.mod tyOk (by decide) l1 (kd.mod.mono fun _ _ e => False.elim e)) (LRep.mod tyOk (by decide) l2 (kd.mod.mono fun _ _ e => False.elim e))) ?_
    rintro e w3 ⟨rfl, n3⟩
    refine ⟨_, rfl, ?_⟩
    refine Exists.intro (New wl) (And.intro (fun _ h => h) (And.intro ((New.drew wl).trans n3) ?_))
    have k3 := kd.trans n3
    refine And.intro (by omega) (And.intro hlt ?_)
    refine some_at e1 ?_
    refine Exists.intro D1 (Exists.intro x.stack.length (Exists.intro q1 (And.intro (fun w'' hw => by rw [Int.toNat_natCast]; exact (kl.trans hw).cell (d1 2 _ rfl)) ?_)))
    refine And.intro (by omega) (And.intro hlt ?_)
    refine some_at e2 ?_
    refine Exists.intro D2 (Exists.intro x.stack.length (Exists.intro q2 (And.intro (fun w'' hw => by rw [Int.toNat_natCast]; exact (kl.trans hw).cell (d2 2 _ rfl)) ?_)))
    refine call_ (SameTypes_ok _ _ x.stack S1 S2 w3 (LRep.mod tyOk (by decide) k1 (k3.mod.mono fun _ _ e => False.elim e)) (LRep.mod tyOk (by decide) k2 (k3.mod.mono fun _ _ e => False.elim e))) ?_
    rintro e w4 ⟨rfl, n4⟩
    refine ⟨_, rfl, ?_⟩
    refine Exists.intro (New wl) (And.intro (fun _ h => h) (And.intro ((New.drew wl).trans (n3.trans n4)) ?_))
    exact ⟨m, i + 1, by omega, ⟨rfl, rfl, inc, trivial⟩, by omega, k3.trans n4⟩
  · exact ⟨rfl, kl⟩
theorem cellB3 {w : World} {b : Nat} {arr : Array Value} {t : TypeId} {i j : Nat} {u : Value} (hb : w.heap[b]? = some (.cells arr t (0, 0))) (hu : arr[i + j]? = some u) : w.cell? (((⟨b, 0, none⟩ : Addr).add i).add j) = some u := by
  rw [add_add_]
  exact cellB hb hu
theorem one_mth (n1 : Int) (z1 z2 : List UInt8) (a b : Int) (A1 A2 A3 : Option Addr) (n1' c1 n2 c2 n3 c3 : Nat) : ∀ u ∈ [zi n1, strV z1, strV z2, zi a, zi b, Value.slice A1 n1' c1, Value.slice A2 n2 c2, Value.slice A3 n3 c3], u.oneCell' = true := fun u hu => by
  simp only [List.mem_cons, List.not_mem_nil, or_false] at hu
  rcases hu with rfl | rfl | rfl | rfl | rfl | rfl | rfl | rfl <;> rfl
/-- Two methods' blocks, compared. -/
theorem SameClass_ok (cs1 cs2 : List Value) (m : Cls) (S1 S2 : Nat → Prop) (w : World) (h1 : clsR w S1 cs1 m) (h2 : clsR w S2 cs2 m) (hp : ∀ x ∈ m.pool, EntOk x) :
    Calls Tryd.prog 12 #[.agg cs1.toArray, .agg cs2.toArray] w fun e w' => e = .returned (.bool true) ∧ New w w' := by
  obtain ⟨_, _, _, rfl, lp1, lf1, lm1⟩ := h1
  obtain ⟨A1, a1, rfl, pl1, _⟩ := pool_row lp1 hp
  obtain ⟨F1, f1, rfl, _⟩ := lf1.get fldOk (by decide)
  have lm10 := lm1
  obtain ⟨M1, m1, rfl, hml, g1⟩ := lm1.get mthOk (by decide)
  obtain ⟨_, _, _, rfl, lp2, lf2, lm2⟩ := h2
  obtain ⟨A2, a2, rfl, pl2, _⟩ := pool_row lp2 hp
  obtain ⟨F2, f2, rfl, _⟩ := lf2.get fldOk (by decide)
  have lm20 := lm2
  obtain ⟨M2, m2, rfl, hml, g2⟩ := lm2.get mthOk (by decide)
  refine enter ok Tryd.func12 rfl rfl rfl ?_
  refine seq_cut (σ := Nat × Nat) (fun t => [(2, .pointer (some ⟨t.1, 0, none⟩)), (3, .pointer (some ⟨t.2, 0, none⟩))]) (fun t w' => New w w' ∧ w'.heap[t.1]? = some (.cells #[.slice A1 m.pool.length a1, strV m.name, strV m.super, .slice F1 m.fields.length f1, .slice M1 m.methods.length m1] 26 (0, 0)) ∧ w'.heap[t.2]? = some (.cells #[.slice A2 m.pool.length a2, strV m.name, strV m.super, .slice F2 m.fields.length f2, .slice M2 m.methods.length m2] 26 (0, 0))) ?_ ?_
  rotate_left
  · intro K hK
    have n1 := New.alloc w (.cells #[.slice A1 m.pool.length a1, strV m.name, strV m.super, .slice F1 m.fields.length f1, .slice M1 m.methods.length m1] 26)
    have n2 := New.alloc (w.alloc (.cells #[.slice A1 m.pool.length a1, strV m.name, strV m.super, .slice F1 m.fields.length f1, .slice M1 m.methods.length m1] 26)) (.cells #[.slice A2 m.pool.length a2, strV m.name, strV m.super, .slice F2 m.fields.length f2, .slice M2 m.methods.length m2] 26)
    exact hK (w.heap.size, (w.alloc (.cells #[.slice A1 m.pool.length a1, strV m.name, strV m.super, .slice F1 m.fields.length f1, .slice M1 m.methods.length m1] 26)).heap.size) _ _ ⟨rfl, rfl, trivial⟩ ⟨n1.trans n2, n2.blk (heap_alloc_new w (.cells #[.slice A1 m.pool.length a1, strV m.name, strV m.super, .slice F1 m.fields.length f1, .slice M1 m.methods.length m1] 26)), heap_alloc_new (w.alloc (.cells #[.slice A1 m.pool.length a1, strV m.name, strV m.super, .slice F1 m.fields.length f1, .slice M1 m.methods.length m1] 26)) (.cells #[.slice A2 m.pool.length a2, strV m.name, strV m.super, .slice F2 m.fields.length f2, .slice M2 m.methods.length m2] 26)⟩
  rintro ⟨b1, b2⟩ wa fra ⟨na, ha1, ha2⟩
  dsimp only at ha1 ha2
  refine seq_cut (σ := Unit) (fun _ => [(2, .pointer (some ⟨b1, 0, none⟩)), (3, .pointer (some ⟨b2, 0, none⟩))]) (fun _ w' => New wa w') ?_ ?_
  rotate_left
  · intro K hK
    refine Exists.intro (⟨m.name.toArray⟩ : ByteArray) (And.intro (cellB ha1 rfl) ?_)
    refine Exists.intro (⟨m.name.toArray⟩ : ByteArray) (And.intro (cellB ha2 rfl) ?_)
    refine if_n (fun h => absurd rfl h) (fun _ => ?_)
    refine Exists.intro (⟨m.super.toArray⟩ : ByteArray) (And.intro (cellB ha1 rfl) ?_)
    refine Exists.intro (⟨m.super.toArray⟩ : ByteArray) (And.intro (cellB ha2 rfl) ?_)
    refine if_n (fun h => absurd rfl h) (fun _ => ?_)
    refine Exists.intro A1 (Exists.intro m.pool.length (Exists.intro a1 (And.intro (cellB ha1 rfl) ?_)))
    refine Exists.intro A2 (Exists.intro m.pool.length (Exists.intro a2 (And.intro (cellB ha2 rfl) ?_)))
    refine call_ (Pool.SameEntries_ok A1 A2 _ a1 _ a2 m.pool wa (pl1.new na) (pl2.new na)) ?_
    rintro e wb ⟨rfl, nb⟩
    refine ⟨_, rfl, ?_⟩
    refine Exists.intro F1 (Exists.intro m.fields.length (Exists.intro f1 (And.intro (cellB (nb.blk ha1) rfl) ?_)))
    refine Exists.intro F2 (Exists.intro m.fields.length (Exists.intro f2 (And.intro (cellB (nb.blk ha2) rfl) ?_)))
    have nab := na.trans nb
    refine call_ (SameFields_ok _ _ m.fields S1 S2 wb (LRep.mod fldOk (by decide) lf1 (nab.mod.mono fun _ _ e => False.elim e)) (LRep.mod fldOk (by decide) lf2 (nab.mod.mono fun _ _ e => False.elim e))) ?_
    rintro e wc ⟨rfl, nc⟩
    refine ⟨_, rfl, ?_⟩
    have nbc := nb.trans nc
    refine Exists.intro M1 (Exists.intro m.methods.length (Exists.intro m1 (And.intro (cellB (nbc.blk ha1) rfl) ?_)))
    refine Exists.intro M2 (Exists.intro m.methods.length (Exists.intro m2 (And.intro (cellB (nbc.blk ha2) rfl) ?_)))
    refine if_n (fun h => absurd rfl h) (fun _ => ?_)
    exact hK () _ _ ⟨rfl, rfl, trivial⟩ nbc
  rintro _ wb frb nb
  have nab := na.trans nb
  refine den_loop (σ := Nat) (fun i => [(2, .pointer (some ⟨b1, 0, none⟩)), (3, .pointer (some ⟨b2, 0, none⟩)), (5, .int .i64 (i : Int))]) (fun q i wl => q + i = m.methods.length ∧ New wa wl) m.methods.length 0 ⟨rfl, rfl, rfl, trivial⟩ ⟨rfl, nb⟩ ?_
  rintro q i wl frl ⟨hfuel, kl⟩
  have hl1 := kl.blk ha1
  have hl2 := kl.blk ha2
  have nl := na.trans kl
  refine Exists.intro M1 (Exists.intro m.methods.length (Exists.intro m1 (And.intro (cellB hl1 rfl) ?_)))
  refine if_p (fun hlt => ?_) (fun hge => ?_)
  rotate_left
  · exact ⟨rfl, nl⟩
  replace hlt : (i : Int) < (m.methods.length : Int) := hlt
  have hi : i < m.methods.length := by omega
  obtain ⟨q, rfl⟩ : ∃ q', q = q' + 1 := ⟨q - 1, by omega⟩
  have inc := incN hi hml
  obtain ⟨_, _, he1, _, g1⟩ := (LRep.mod mthOk (by decide) lm10 (nl.mod.mono fun _ _ e => False.elim e)).get mthOk (by decide)
  obtain ⟨_, _, he2, _, g2⟩ := (LRep.mod mthOk (by decide) lm20 (nl.mod.mono fun _ _ e => False.elim e)).get mthOk (by decide)
  cases he1
  cases he2
  obtain ⟨p1, cs1, e1, x1, y1⟩ := g1 i hi
  obtain ⟨p2, cs2, e2, x2, y2⟩ := g2 i hi
  generalize m.methods[i] = x at x1 x2
  obtain ⟨_, _, _, rfl, u1, v1, z1⟩ := x1
  obtain ⟨_, _, _, rfl, u2, v2, z2⟩ := x2
  obtain ⟨B1, c1, rfl, row1, _⟩ := bytes_row u1
  obtain ⟨B2, c2, rfl, row2, _⟩ := bytes_row u2
  obtain ⟨H1, h1, rfl, _⟩ := v1.get hndOk (by decide)
  obtain ⟨H2, h2, rfl, _⟩ := v2.get hndOk (by decide)
  obtain ⟨D1, d1, rfl, _⟩ := z1.get mpOk (by decide)
  obtain ⟨D2, d2, rfl, _⟩ := z2.get mpOk (by decide)
  refine seq_cut (σ := Unit) (fun _ => [(2, .pointer (some ⟨b1, 0, none⟩)), (3, .pointer (some ⟨b2, 0, none⟩)), (5, .int .i64 (i : Int))]) (fun _ w' => New wl w') ?_ ?_
  · rintro _ wz frz nz
    exact ⟨q, i + 1, by omega, ⟨rfl, rfl, inc, trivial⟩, by omega, kl.trans nz⟩
  intro K hK0
  refine block_ ?_
  refine seq_cut (σ := Nat × Nat) (fun t => [(2, .pointer (some ⟨b1, 0, none⟩)), (3, .pointer (some ⟨b2, 0, none⟩)), (5, .int .i64 (i : Int)), (6, .pointer (some ⟨t.1, 0, none⟩)), (7, .pointer (some ⟨t.2, 0, none⟩))]) (fun t w' => New wl w' ∧ w'.heap[t.1]? = some (.cells #[zi x.acc, strV x.name, strV x.typ, zi x.code.stack, zi x.code.locals, .slice B1 x.code.bytes.length c1, .slice H1 x.code.hands.length h1, .slice D1 x.code.maps.length d1] 36 (0, 0)) ∧ w'.heap[t.2]? = some (.cells #[zi x.acc, strV x.name, strV x.typ, zi x.code.stack, zi x.code.locals, .slice B2 x.code.bytes.length c2, .slice H2 x.code.hands.length h2, .slice D2 x.code.maps.length d2] 36 (0, 0))) ?_ ?_
  rotate_left
  · intro K hK
    refine draw_ (w := wl) ok (.q 0 (.q 1 (.q 2 (.q 3 (.q 4 (.q 5 (.q 6 (.q 7 (.q 8 (.q 9 (.br (.e 10 (.e 11 (.e 12 (.e 13 .done)))) (.e 11 (.e 10 (.e 12 (.e 13 .done))))))))))))))) [13] (New wl) (by kernel_rfl) (by kernel_rfl) (by kernel_rfl) (by kernel_rfl) (by kernel_rfl) (New.drew _) ?_
    refine Exists.intro M1 (Exists.intro m.methods.length (Exists.intro m1 (And.intro (fun w'' hw => cellB (hw.blk hl1) rfl) ?_)))
    refine And.intro (by omega) (And.intro hlt ?_)
    refine some_at e1 ?_
    refine loadNC_row (vs := [zi x.acc, strV x.name, strV x.typ, zi x.code.stack, zi x.code.locals, .slice B1 x.code.bytes.length c1, .slice H1 x.code.hands.length h1, .slice D1 x.code.maps.length d1]) (fun j u hu w'' hw => by rw [Int.toNat_natCast]; exact hw.cell (y1 j u hu)) rfl ?_
    refine Exists.intro M2 (Exists.intro m.methods.length (Exists.intro m2 (And.intro (fun w'' hw => cellB (hw.blk hl2) rfl) ?_)))
    refine And.intro (by omega) (And.intro hlt ?_)
    refine some_at e2 ?_
    refine loadNC_row (vs := [zi x.acc, strV x.name, strV x.typ, zi x.code.stack, zi x.code.locals, .slice B2 x.code.bytes.length c2, .slice H2 x.code.hands.length h2, .slice D2 x.code.maps.length d2]) (fun j u hu w'' hw => by rw [Int.toNat_natCast]; exact hw.cell (y2 j u hu)) rfl ?_
    refine And.intro ?_ ?_
    · have na := New.alloc wl.drew (.cells #[zi 0, .string ⟨#[]⟩, .string ⟨#[]⟩, zi 0, zi 0, .slice none 0 0, .slice none 0 0, .slice none 0 0] 36)
      have ha := heap_alloc_new wl.drew (.cells #[zi 0, .string ⟨#[]⟩, .string ⟨#[]⟩, zi 0, zi 0, .slice none 0 0, .slice none 0 0, .slice none 0 0] 36)
      have sa : (wl.drew.alloc (.cells #[zi 0, .string ⟨#[]⟩, .string ⟨#[]⟩, zi 0, zi 0, .slice none 0 0, .slice none 0 0, .slice none 0 0] 36)).heap.size = wl.drew.heap.size + 1 := by simp
      have zd : wl.drew.heap.size = wl.heap.size := rfl
      refine Exists.intro (New wl) (And.intro (fun _ h => h) (And.intro ((New.drew wl).trans na) ?_))
      have hX0 : wl.heap.size ≤ wl.drew.heap.size := by omega
      have hY0 : wl.heap.size ≤ (wl.drew.alloc (.cells #[zi 0, .string ⟨#[]⟩, .string ⟨#[]⟩, zi 0, zi 0, .slice none 0 0, .slice none 0 0, .slice none 0 0] 36)).heap.size := by omega
      have hXY : ¬ wl.drew.heap.size = (wl.drew.alloc (.cells #[zi 0, .string ⟨#[]⟩, .string ⟨#[]⟩, zi 0, zi 0, .slice none 0 0, .slice none 0 0, .slice none 0 0] 36)).heap.size := by omega
      have nb := New.alloc (wl.drew.alloc (.cells #[zi 0, .string ⟨#[]⟩, .string ⟨#[]⟩, zi 0, zi 0, .slice none 0 0, .slice none 0 0, .slice none 0 0] 36)) (.cells #[zi 0, .string ⟨#[]⟩, .string ⟨#[]⟩, zi 0, zi 0, .slice none 0 0, .slice none 0 0, .slice none 0 0] 36)
      have hb := heap_alloc_new (wl.drew.alloc (.cells #[zi 0, .string ⟨#[]⟩, .string ⟨#[]⟩, zi 0, zi 0, .slice none 0 0, .slice none 0 0, .slice none 0 0] 36)) (.cells #[zi 0, .string ⟨#[]⟩, .string ⟨#[]⟩, zi 0, zi 0, .slice none 0 0, .slice none 0 0, .slice none 0 0] 36)
      refine Exists.intro (New wl) (And.intro (fun _ h => h) (And.intro (((New.drew wl).trans na).trans nb) ?_))
      refine And.intro rfl ?_
      refine storeN_all (vs := [zi x.acc, strV x.name, strV x.typ, zi x.code.stack, zi x.code.locals, .slice B1 x.code.bytes.length c1, .slice H1 x.code.hands.length h1, .slice D1 x.code.maps.length d1]) (nb.blk ha) rfl (one_mth _ _ _ _ _ _ _ _ _ _ _ _ _ _) ?_
      intro wc hXc mc sc
      refine Exists.intro (New wl) (And.intro (fun _ h => h) (And.intro ((((New.drew wl).trans na).trans nb).st mc hX0) ?_))
      refine And.intro rfl ?_
      refine storeN_all (vs := [zi x.acc, strV x.name, strV x.typ, zi x.code.stack, zi x.code.locals, .slice B2 x.code.bytes.length c2, .slice H2 x.code.hands.length h2, .slice D2 x.code.maps.length d2]) (mc.blk hb (fun e => hXY e.symm)) rfl (one_mth _ _ _ _ _ _ _ _ _ _ _ _ _ _) ?_
      intro wd hYd md sd
      exact hK (wl.drew.heap.size, (wl.drew.alloc (.cells #[zi 0, .string ⟨#[]⟩, .string ⟨#[]⟩, zi 0, zi 0, .slice none 0 0, .slice none 0 0, .slice none 0 0] 36)).heap.size) _ _ ⟨rfl, rfl, rfl, rfl, rfl, trivial⟩ ⟨((((New.drew wl).trans na).trans nb).st mc hX0).st md hY0, md.blk hXc hXY, hYd⟩
    · have na := New.alloc wl.drew (.cells #[zi 0, .string ⟨#[]⟩, .string ⟨#[]⟩, zi 0, zi 0, .slice none 0 0, .slice none 0 0, .slice none 0 0] 36)
      have ha := heap_alloc_new wl.drew (.cells #[zi 0, .string ⟨#[]⟩, .string ⟨#[]⟩, zi 0, zi 0, .slice none 0 0, .slice none 0 0, .slice none 0 0] 36)
      have sa : (wl.drew.alloc (.cells #[zi 0, .string ⟨#[]⟩, .string ⟨#[]⟩, zi 0, zi 0, .slice none 0 0, .slice none 0 0, .slice none 0 0] 36)).heap.size = wl.drew.heap.size + 1 := by simp
      have zd : wl.drew.heap.size = wl.heap.size := rfl
      refine Exists.intro (New wl) (And.intro (fun _ h => h) (And.intro ((New.drew wl).trans na) ?_))
      have hX0 : wl.heap.size ≤ (wl.drew.alloc (.cells #[zi 0, .string ⟨#[]⟩, .string ⟨#[]⟩, zi 0, zi 0, .slice none 0 0, .slice none 0 0, .slice none 0 0] 36)).heap.size := by omega
      have hY0 : wl.heap.size ≤ wl.drew.heap.size := by omega
      have hXY : ¬ (wl.drew.alloc (.cells #[zi 0, .string ⟨#[]⟩, .string ⟨#[]⟩, zi 0, zi 0, .slice none 0 0, .slice none 0 0, .slice none 0 0] 36)).heap.size = wl.drew.heap.size := by omega
      have nb := New.alloc (wl.drew.alloc (.cells #[zi 0, .string ⟨#[]⟩, .string ⟨#[]⟩, zi 0, zi 0, .slice none 0 0, .slice none 0 0, .slice none 0 0] 36)) (.cells #[zi 0, .string ⟨#[]⟩, .string ⟨#[]⟩, zi 0, zi 0, .slice none 0 0, .slice none 0 0, .slice none 0 0] 36)
      have hb := heap_alloc_new (wl.drew.alloc (.cells #[zi 0, .string ⟨#[]⟩, .string ⟨#[]⟩, zi 0, zi 0, .slice none 0 0, .slice none 0 0, .slice none 0 0] 36)) (.cells #[zi 0, .string ⟨#[]⟩, .string ⟨#[]⟩, zi 0, zi 0, .slice none 0 0, .slice none 0 0, .slice none 0 0] 36)
      refine Exists.intro (New wl) (And.intro (fun _ h => h) (And.intro (((New.drew wl).trans na).trans nb) ?_))
      refine And.intro rfl ?_
      refine storeN_all (vs := [zi x.acc, strV x.name, strV x.typ, zi x.code.stack, zi x.code.locals, .slice B1 x.code.bytes.length c1, .slice H1 x.code.hands.length h1, .slice D1 x.code.maps.length d1]) hb rfl (one_mth _ _ _ _ _ _ _ _ _ _ _ _ _ _) ?_
      intro wc hXc mc sc
      refine Exists.intro (New wl) (And.intro (fun _ h => h) (And.intro ((((New.drew wl).trans na).trans nb).st mc hX0) ?_))
      refine And.intro rfl ?_
      refine storeN_all (vs := [zi x.acc, strV x.name, strV x.typ, zi x.code.stack, zi x.code.locals, .slice B2 x.code.bytes.length c2, .slice H2 x.code.hands.length h2, .slice D2 x.code.maps.length d2]) (mc.blk (nb.blk ha) (fun e => hXY e.symm)) rfl (one_mth _ _ _ _ _ _ _ _ _ _ _ _ _ _) ?_
      intro wd hYd md sd
      exact hK ((wl.drew.alloc (.cells #[zi 0, .string ⟨#[]⟩, .string ⟨#[]⟩, zi 0, zi 0, .slice none 0 0, .slice none 0 0, .slice none 0 0] 36)).heap.size, wl.drew.heap.size) _ _ ⟨rfl, rfl, rfl, rfl, rfl, trivial⟩ ⟨((((New.drew wl).trans na).trans nb).st mc hX0).st md hY0, md.blk hXc hXY, hYd⟩
  rintro ⟨X, Y⟩ wx frx ⟨nx, hX, hY⟩
  dsimp only at hX hY
  refine Exists.intro x.acc (And.intro (cellB hX rfl) ?_)
  refine Exists.intro x.acc (And.intro (cellB hY rfl) ?_)
  refine if_n (fun h => absurd rfl h) (fun _ => ?_)
  refine Exists.intro (⟨x.name.toArray⟩ : ByteArray) (And.intro (cellB hX rfl) ?_)
  refine Exists.intro (⟨x.name.toArray⟩ : ByteArray) (And.intro (cellB hY rfl) ?_)
  refine if_n (fun h => absurd rfl h) (fun _ => ?_)
  refine Exists.intro (⟨x.typ.toArray⟩ : ByteArray) (And.intro (cellB hX rfl) ?_)
  refine Exists.intro (⟨x.typ.toArray⟩ : ByteArray) (And.intro (cellB hY rfl) ?_)
  refine if_n (fun h => absurd rfl h) (fun _ => ?_)
  refine Exists.intro x.code.stack (And.intro (cellB3 hX rfl) ?_)
  refine Exists.intro x.code.stack (And.intro (cellB3 hY rfl) ?_)
  refine if_n (fun h => absurd rfl h) (fun _ => ?_)
  refine Exists.intro x.code.locals (And.intro (cellB3 hX rfl) ?_)
  refine Exists.intro x.code.locals (And.intro (cellB3 hY rfl) ?_)
  refine if_n (fun h => absurd rfl h) (fun _ => ?_)
  refine Exists.intro B1 (Exists.intro x.code.bytes.length (Exists.intro c1 (And.intro (cellB3 ((New.refl wx).blk hX) rfl) ?_)))
  refine Exists.intro B2 (Exists.intro x.code.bytes.length (Exists.intro c2 (And.intro (cellB3 ((New.refl wx).blk hY) rfl) ?_)))
  refine call_ (Base.SameBytes_ok B1 B2 _ c1 _ c2 x.code.bytes x.code.bytes wx rfl rfl (row1.new nx) (row2.new nx)) ?_
  rintro e wy ⟨rfl, hwy⟩
  obtain rfl := hwy.symm
  refine ⟨_, rfl, ?_⟩
  refine if_n (fun h => absurd rfl h) (fun _ => ?_)
  refine Exists.intro H1 (Exists.intro x.code.hands.length (Exists.intro h1 (And.intro (cellB3 ((New.refl wx).blk hX) rfl) ?_)))
  refine Exists.intro H2 (Exists.intro x.code.hands.length (Exists.intro h2 (And.intro (cellB3 ((New.refl wx).blk hY) rfl) ?_)))
  refine call_ (SameHandlers_ok _ _ x.code.hands S1 S2 wx (LRep.mod hndOk (by decide) v1 (nx.mod.mono fun _ _ e => False.elim e)) (LRep.mod hndOk (by decide) v2 (nx.mod.mono fun _ _ e => False.elim e))) ?_
  rintro e wy ⟨rfl, ny⟩
  refine ⟨_, rfl, ?_⟩
  have nxy := nx.trans ny
  refine Exists.intro D1 (Exists.intro x.code.maps.length (Exists.intro d1 (And.intro (cellB3 (ny.blk hX) rfl) ?_)))
  refine Exists.intro D2 (Exists.intro x.code.maps.length (Exists.intro d2 (And.intro (cellB3 (ny.blk hY) rfl) ?_)))
  refine call_ (SameMaps_ok _ _ x.code.maps S1 S2 wy (LRep.mod mpOk (by decide) z1 (nxy.mod.mono fun _ _ e => False.elim e)) (LRep.mod mpOk (by decide) z2 (nxy.mod.mono fun _ _ e => False.elim e))) ?_
  rintro e wz ⟨rfl, nz⟩
  refine ⟨_, rfl, ?_⟩
  exact hK0 () _ _ ⟨rfl, rfl, rfl, trivial⟩ (nxy.trans nz)

end Go.Proofs.YtdcaafldnbcdkaaDoor.Class

/-! ### KBack -/
namespace Go.Proofs.YtdcaafldnbcdkaaDoor.Class
open Go Go.Proofs.YtdcaafldnbcdkaaDoor Go.Proofs.YtdcaafldnbcdkaaDoor.Eng Go.Proofs Go.Proofs.YtdcaafldnbcdkaaDoor.Word Go.Proofs.YtdcaafldnbcdkaaDoor.Fmt
open Go.Proofs.YtdcaafldnbcdkaaDoor.Pool (Ent at_ poolF strV entC entV EntOk Pl OkPool both own_low tagAt)
set_option maxRecDepth 10000

theorem ClassBack_ok (cs0 : List Value) (m : Cls) (S : Nat → Prop) (A : Option Addr) (n c : Nat) (bs : List UInt8) (w : World) (hx : clsR w S cs0 m) (hf : fCls m) (hk : Kt w) (hn : n = bs.length) (hr : Row w A (bvs bs)) (hc : n ≤ c) (hc2 : c ≤ 9223372036854775807) :
    Calls Tryd.prog 6 #[.agg cs0.toArray, .slice A n c] w fun e w' => e = .returned (.bool true) ∧ New w w' := by
  subst hn
  have hx0 := hx
  obtain ⟨_, _, _, rfl, lp, lf, lm⟩ := hx
  obtain ⟨A1, a1, rfl, _⟩ := lp.get entOk (by decide)
  obtain ⟨F1, f1, rfl, _⟩ := lf.get fldOk (by decide)
  obtain ⟨M1, m1, rfl, _⟩ := lm.get mthOk (by decide)
  have hG := hk.lt
  have hxw : ∀ {w' : World}, New w w' → clsR w' S [.slice A1 m.pool.length a1, strV m.name, strV m.super, .slice F1 m.fields.length f1, .slice M1 m.methods.length m1] m := fun n => clsOk.mod hx0 (n.mod.mono fun _ _ e => False.elim e)
  have hkw : ∀ {w' : World}, New w w' → Kt w' := fun n k h0 h5 => n.cell (hk k h0 h5)
  have hGw : ∀ {w' : World}, New w w' → 0 < w'.heap.size := fun n => by have := n.size; omega
  refine enter ok Tryd.func6 rfl rfl rfl ?_
  refine seq_cut (σ := Unit) (fun _ => [(1, .slice A bs.length c), (2, .pointer (some ⟨w.heap.size, 0, none⟩))]) (fun _ w' => New w w' ∧ w'.heap[w.heap.size]? = some (.cells #[.slice A1 m.pool.length a1, strV m.name, strV m.super, .slice F1 m.fields.length f1, .slice M1 m.methods.length m1] 26 (0, 0))) ?_ ?_
  rotate_left
  · intro K hK
    exact hK () _ _ ⟨rfl, rfl, trivial⟩ ⟨New.alloc w _, heap_alloc_new w (.cells #[.slice A1 m.pool.length a1, strV m.name, strV m.super, .slice F1 m.fields.length f1, .slice M1 m.methods.length m1] 26)⟩
  rintro _ w1 fr1 ⟨n1, hM1⟩
  refine seq_cut (σ := Unit) (fun _ => [(1, .slice A bs.length c), (2, .pointer (some ⟨w.heap.size, 0, none⟩))]) (fun _ w' => New w w' ∧ w'.heap[w.heap.size]? = some (.cells #[.slice A1 m.pool.length a1, strV m.name, strV m.super, .slice F1 m.fields.length f1, .slice M1 m.methods.length m1] 26 (0, 0))) ?_ ?_
  rotate_left
  · intro K hK
    refine call_ (works_ok w1 (hkw n1) (hGw n1)) ?_
    rintro e w2 ⟨rfl, n2⟩
    refine ⟨_, rfl, ?_⟩
    exact hK () _ _ ⟨rfl, rfl, trivial⟩ ⟨n1.trans n2, n2.blk hM1⟩
  rintro _ w2 fr2 ⟨n2, hM2⟩
  refine seq_cut (σ := Unit) (fun _ => [(1, .slice A bs.length c), (2, .pointer (some ⟨w.heap.size, 0, none⟩))]) (fun _ w' => New w w' ∧ w'.heap[w.heap.size]? = some (.cells #[.slice A1 m.pool.length a1, strV m.name, strV m.super, .slice F1 m.fields.length f1, .slice M1 m.methods.length m1] 26 (0, 0)) ∧ cCls m ≤ 170000 ∧ bs.length ≤ 6000) ?_ ?_
  rotate_left
  · intro K hK
    refine loadN_row (vs := [.slice A1 m.pool.length a1, strV m.name, strV m.super, .slice F1 m.fields.length f1, .slice M1 m.methods.length m1]) (rowB hM2) rfl ?_
    refine call_ (light_ok [.slice A1 m.pool.length a1, strV m.name, strV m.super, .slice F1 m.fields.length f1, .slice M1 m.methods.length m1] m S w2 (hxw n2)) ?_
    rintro e w3 ⟨b, rfl, hb, n3⟩
    refine ⟨_, rfl, ?_⟩
    cases b with
    | false => exact ⟨rfl, n2.trans n3⟩
    | true =>
      refine if_p (fun hl => ?_) (fun hl => ?_)
      · exact ⟨rfl, n2.trans n3⟩
      · replace hl : ¬ (6000 : Int) < (bs.length : Int) := hl
        exact hK () _ _ ⟨rfl, rfl, trivial⟩ ⟨n2.trans n3, n3.blk hM2, (hb rfl).1, by omega⟩
  rintro _ w3 fr3 ⟨n3, hM3, hcost, hlen⟩
  refine seq_cut (σ := Unit) (fun _ => [(1, .slice A bs.length c)]) (fun _ w' => New w w') ?_ ?_
  rotate_left
  · intro K0 hK0
    refine seq_cut (σ := (Option Addr × Nat × Nat) × Int) (fun t => [(1, .slice A bs.length c), (2, .pointer (some ⟨w.heap.size, 0, none⟩)), (5, .slice t.1.1 t.1.2.1 t.1.2.2), (6, zi t.2)]) (fun t w' => New w3 w' ∧ t.2 = errOf m ∧ t.1.2.1 = (bytesOf m).length ∧ Row w' t.1.1 (bvs (bytesOf m)) ∧ (bytesOf m).length ≤ t.1.2.2 ∧ t.1.2.2 ≤ 9223372036854775807) ?_ ?_
    rotate_left
    · intro K2 hK2
      refine loadN_row (vs := [.slice A1 m.pool.length a1, strV m.name, strV m.super, .slice F1 m.fields.length f1, .slice M1 m.methods.length m1]) (rowB hM3) rfl ?_
      refine call_ (Print_ok [.slice A1 m.pool.length a1, strV m.name, strV m.super, .slice F1 m.fields.length f1, .slice M1 m.methods.length m1] m S w3 (hxw n3) hf (hkw n3) (hGw n3) (by omega)) ?_
      rintro e w4 ⟨A4, c4, rfl, row4, ha, hb, n4⟩
      refine ⟨_, rfl, ?_⟩
      exact hK2 ((A4, (bytesOf m).length, c4), errOf m) _ _ ⟨rfl, rfl, rfl, rfl, trivial⟩ ⟨n4, rfl, rfl, row4, ha, hb⟩
    rintro ⟨⟨A4, q4, c4⟩, er⟩ w4 fr4 ⟨n34, her, hq4, row4, hc4, hd4⟩
    dsimp only at her hq4 row4 hc4 hd4
    have n4 := n3.trans n34
    have hM4 := n34.blk hM3
    refine if_p (fun h0 => ?_) (fun h0 => ?_)
    · replace h0 : er = 0 := h0
      have his : Is (bytesOf m) m := ⟨her.symm.trans h0, rfl⟩
      have hbm := (is_of his).2.2
      refine seq_cut (σ := Nat) (fun t => [(1, .slice A bs.length c), (2, .pointer (some ⟨w.heap.size, 0, none⟩)), (7, .pointer (some ⟨t, 0, none⟩)), (8, zi 0)]) (fun t w' => New w4 w' ∧ ∃ cs, w'.heap[t]? = some (.cells (List.toArray cs) 26 (0, 0)) ∧ clsR w' (fun b => b < w4.heap.size) cs m) ?_ ?_
      rotate_left
      · intro K2 hK2
        have hp := Parse_ok A4 c4 (bytesOf m) w4 row4 (by omega) hd4 (by omega) (hkw n4) (hGw n4)
        rw [← hq4] at hp
        refine call_ hp ?_
        intro e w6 hres
        obtain ⟨P2, p2, F2, f2, M2, m2, y, e2, rfl, hy, ht, n6⟩ := hres.told
        obtain ⟨h2, rfl⟩ := ht.good his
        subst h2
        refine ⟨_, rfl, ?_⟩
        refine And.intro rfl ?_
        refine storeNew (vs := [.slice P2 y.pool.length p2, strV y.name, strV y.super, .slice F2 y.fields.length f2, .slice M2 y.methods.length m2]) (arr := #[.slice none 0 0, .string ⟨#[]⟩, .string ⟨#[]⟩, .slice none 0 0, .slice none 0 0]) rfl (clsOk.one hy) ?_
        intro w7 hb7 n7 s7
        exact hK2 w6.heap.size _ _ ⟨rfl, rfl, rfl, rfl, trivial⟩ ⟨n6.trans n7, _, hb7, clsOk.mod hy (n7.mod.mono fun _ _ e => False.elim e)⟩
      rintro X w5 fr5 ⟨n5, cs, hX5, hy5⟩
      have hM5 := n5.blk hM4
      have hy50 := hy5
      obtain ⟨_, _, _, rfl, lp2, lf2, lm2⟩ := hy5
      obtain ⟨P2, p2, rfl, _⟩ := lp2.get entOk (by decide)
      obtain ⟨F2, f2, rfl, _⟩ := lf2.get fldOk (by decide)
      obtain ⟨M2, m2, rfl, _⟩ := lm2.get mthOk (by decide)
      refine loadN_row (vs := [.slice A1 m.pool.length a1, strV m.name, strV m.super, .slice F1 m.fields.length f1, .slice M1 m.methods.length m1]) (rowB hM5) rfl ?_
      refine loadN_row (vs := [.slice P2 m.pool.length p2, strV m.name, strV m.super, .slice F2 m.fields.length f2, .slice M2 m.methods.length m2]) (rowB hX5) rfl ?_
      refine call_ (SameClass_ok [.slice A1 m.pool.length a1, strV m.name, strV m.super, .slice F1 m.fields.length f1, .slice M1 m.methods.length m1] [.slice P2 m.pool.length p2, strV m.name, strV m.super, .slice F2 m.fields.length f2, .slice M2 m.methods.length m2] m S (fun b => b < w4.heap.size) w5 (hxw (n4.trans n5)) hy50 hf.1) ?_
      rintro e w6 ⟨rfl, n6⟩
      refine ⟨_, rfl, ?_⟩
      exact hK0 () _ _ ⟨rfl, trivial⟩ (n4.trans (n5.trans n6))
    · exact hK0 () _ _ ⟨rfl, trivial⟩ n4
  rintro _ w4 fr4 n4
  refine seq_cut (σ := Nat × Int) (fun t => [(1, .slice A bs.length c), (9, .pointer (some ⟨t.1, 0, none⟩)), (10, zi t.2)]) (fun t w' => New w w' ∧ ∃ cs y, w'.heap[t.1]? = some (.cells (List.toArray cs) 26 (0, 0)) ∧ clsR w' (fun b => b < w4.heap.size) cs y ∧ Told bs y t.2) ?_ ?_
  rotate_left
  · intro K hK
    refine call_ (Parse_ok A c bs w4 (hr.new n4) hc hc2 (by omega) (hkw n4) (hGw n4)) ?_
    intro e w6 hres
    obtain ⟨P2, p2, F2, f2, M2, m2, y, e2, rfl, hy, ht, n6⟩ := hres.told
    refine ⟨_, rfl, ?_⟩
    refine And.intro rfl ?_
    refine storeNew (vs := [.slice P2 y.pool.length p2, strV y.name, strV y.super, .slice F2 y.fields.length f2, .slice M2 y.methods.length m2]) (arr := #[.slice none 0 0, .string ⟨#[]⟩, .string ⟨#[]⟩, .slice none 0 0, .slice none 0 0]) rfl (clsOk.one hy) ?_
    intro w7 hb7 n7 s7
    exact hK (w6.heap.size, e2) _ _ ⟨rfl, rfl, rfl, trivial⟩ ⟨n4.trans (n6.trans n7), _, y, hb7, clsOk.mod hy (n7.mod.mono fun _ _ e => False.elim e), ht⟩
  rintro ⟨X, e5⟩ w5 fr5 ⟨n5, cs, y, hX5, hy5, ht⟩
  dsimp only at hX5 ht
  have hy50 := hy5
  obtain ⟨_, _, _, rfl, lp2, lf2, lm2⟩ := hy5
  obtain ⟨P2, p2, rfl, _⟩ := lp2.get entOk (by decide)
  obtain ⟨F2, f2, rfl, _⟩ := lf2.get fldOk (by decide)
  obtain ⟨M2, m2, rfl, _⟩ := lm2.get mthOk (by decide)
  refine seq_cut (σ := Unit) (fun t => [(1, .slice A bs.length c), (9, .pointer (some ⟨X, 0, none⟩))]) (fun _ w' => w' = w5 ∧ e5 = 0) ?_ ?_
  rotate_left
  · intro K hK
    refine if_n (fun hne => ?_) (fun h0 => ?_)
    · have hb : y = cls0 := by
        rcases ht with ⟨h, _⟩ | ⟨h, _⟩
        · exact absurd h hne
        · exact h
      refine loadN_row (vs := [.slice P2 y.pool.length p2, strV y.name, strV y.super, .slice F2 y.fields.length f2, .slice M2 y.methods.length m2]) (rowB hX5) rfl ?_
      rw [hb] at hy50 ⊢
      refine call_ (SameClass_ok _ zeroC cls0 _ (fun _ => False) w5 hy50 (zero_rep w5 _) (fun _ h => (by cases h))) ?_
      rintro e w6 ⟨rfl, n6⟩
      refine ⟨_, rfl, ?_⟩
      exact ⟨rfl, n5.trans n6⟩
    · exact hK () _ _ ⟨rfl, rfl, trivial⟩ ⟨rfl, h0⟩
  rintro _ wy fry ⟨hwy, h0⟩
  obtain rfl := hwy.symm
  obtain ⟨his, hfy, hcy⟩ : Is bs y ∧ fCls y ∧ cCls y ≤ 500000000 := by
    rcases ht with ⟨_, h⟩ | ⟨_, _, h⟩
    · exact h
    · rw [h0] at h
      split at h <;> cases h
  refine seq_cut (σ := (Option Addr × Nat) × List UInt8 × Int) (fun t => [(1, .slice A bs.length c), (11, .slice t.1.1 t.2.1.length t.1.2), (12, zi t.2.2)]) (fun t w' => New w w' ∧ t.2.2 = 0 ∧ t.2.1 = bs ∧ Row w' t.1.1 (bvs t.2.1)) ?_ ?_
  rotate_left
  · intro K hK
    refine loadN_row (vs := [.slice P2 y.pool.length p2, strV y.name, strV y.super, .slice F2 y.fields.length f2, .slice M2 y.methods.length m2]) (rowB hX5) rfl ?_
    refine call_ (Print_ok _ y (fun b => b < w4.heap.size) w5 hy50 hfy (hkw n5) (hGw n5) hcy) ?_
    rintro e w6 ⟨A6, c6, rfl, row6, _, _, n6⟩
    refine ⟨_, rfl, ?_⟩
    exact hK ((A6, c6), bytesOf y, errOf y) _ _ ⟨rfl, rfl, rfl, trivial⟩ ⟨n5.trans n6, his.1, his.2, row6⟩
  rintro ⟨⟨A6, c6⟩, xs, e6⟩ w6 fr6 ⟨n6, he6, hxs, row6⟩
  dsimp only at he6 hxs row6
  refine if_p (fun _ => ?_) (fun h => absurd he6 h)
  refine call_ (Base.SameBytes_ok A6 A _ c6 _ c xs bs w6 rfl rfl row6 (hr.new n6)) ?_
  rintro e w7 ⟨rfl, hw7⟩
  obtain rfl := hw7.symm
  refine ⟨_, rfl, ?_⟩
  rw [hxs]
  exact ⟨(show Ending.returned (.bool (decide (bs = bs))) = .returned (.bool true) by rw [decide_eq_true rfl]), n6⟩

end Go.Proofs.YtdcaafldnbcdkaaDoor.Class
