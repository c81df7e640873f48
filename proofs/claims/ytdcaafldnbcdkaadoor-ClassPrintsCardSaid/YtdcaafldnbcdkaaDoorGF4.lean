/- The texts KSame, KClone, KCopy, KCopyS, WRef4, WRef5, KPut, KRef1, KRef2 behind one another, merged by mrg.py; each says in its own place what it proves. -/
import Derived.Test.YtdcaafldnbcdkaaDoorGF3

/-! ### KSame -/
namespace Go.Proofs.YtdcaafldnbcdkaaDoor.Class
open Go Go.Proofs.YtdcaafldnbcdkaaDoor Go.Proofs.YtdcaafldnbcdkaaDoor.Eng Go.Proofs Go.Proofs.YtdcaafldnbcdkaaDoor.Word Go.Proofs.YtdcaafldnbcdkaaDoor.Fmt
open Go.Proofs.YtdcaafldnbcdkaaDoor.Pool (Ent at_ poolF strV entC entV EntOk Pl OkPool both own_low tagAt)
set_option maxRecDepth 10000
theorem SameTypes_ok (v1 v2 : Value) (xs : List Ty) (S1 S2 : Nat → Prop) (w : World) (h1 : LRep tyR w S1 v1 xs) (h2 : LRep tyR w S2 v2 xs) :
    Calls Tryd.prog 69 #[v1, v2] w fun e w' => e = .returned (.bool true) ∧ New w w' := by
  obtain ⟨A1, c1, rfl, hl, g1⟩ := h1.get tyOk (by decide)
  obtain ⟨A2, c2, rfl, _, g2⟩ := h2.get tyOk (by decide)
  refine enter ok Tryd.func69 rfl rfl rfl ?_
  refine if_n (fun h => absurd rfl h) (fun _ => ?_)
  refine den_loop (σ := Nat) (fun i => [(0, .slice A1 xs.length c1), (1, .slice A2 xs.length c2), (5, .int .i64 (i : Int))]) (fun m i wl => m + i = xs.length ∧ New w wl) xs.length 0 ⟨rfl, rfl, rfl, trivial⟩ ⟨rfl, New.refl _⟩ ?_
  rintro m i wl frl ⟨hfuel, kl⟩
  refine if_p (fun hlt => ?_) (fun hge => ?_)
  · replace hlt : (i : Int) < (xs.length : Int) := hlt
    have hi : i < xs.length := by omega
    obtain ⟨m, rfl⟩ : ∃ m', m = m' + 1 := ⟨m - 1, by omega⟩
    have inc := incN hi hl
    obtain ⟨a1, cs1, e1, x1, d1⟩ := g1 i hi
    obtain ⟨a2, cs2, e2, x2, d2⟩ := g2 i hi
    generalize xs[i] = x at x1 x2
    obtain rfl := x1
    obtain rfl := x2
    refine draw_ (w := wl) ok (.q 0 (.q 1 (.q 2 (.q 3 (.q 4 (.q 5 (.q 6 (.q 7 (.q 8 .done))))))))) [8] (New wl) (by kernel_rfl) (by kernel_rfl) (by kernel_rfl) (by kernel_rfl) (by kernel_rfl) (New.drew _) ?_
    refine And.intro (by omega) (And.intro hlt ?_)
    refine some_at e1 ?_
    refine loadNC_row (vs := [zi x.kind, strV x.name]) (fun j u hu w'' hw => by rw [Int.toNat_natCast]; exact (kl.trans hw).cell (d1 j u hu)) rfl ?_
    refine And.intro (by omega) (And.intro hlt ?_)
    refine some_at e2 ?_
    refine loadNC_row (vs := [zi x.kind, strV x.name]) (fun j u hu w'' hw => by rw [Int.toNat_natCast]; exact (kl.trans hw).cell (d2 j u hu)) rfl ?_
    refine Exists.intro (.bool (!(decide (x.kind = x.kind) && (decide ((⟨x.name.toArray⟩ : ByteArray) = ⟨x.name.toArray⟩) && true)))) (And.intro (fun w'' _ => agg_cmp ok rfl rfl rfl (by kernel_rfl) (by kernel_rfl) rfl rfl rfl (!(decide (x.kind = x.kind) && (decide ((⟨x.name.toArray⟩ : ByteArray) = ⟨x.name.toArray⟩) && true))) (.inr ⟨rfl, by exact rfl⟩) w'') ?_)
    refine if_no (by simp) ?_
    exact ⟨m, i + 1, by omega, ⟨rfl, rfl, inc, trivial⟩, by omega, kl.trans (New.drew _)⟩
  · exact ⟨rfl, kl⟩
theorem SameHandlers_ok (v1 v2 : Value) (xs : List Hnd) (S1 S2 : Nat → Prop) (w : World) (h1 : LRep hndR w S1 v1 xs) (h2 : LRep hndR w S2 v2 xs) :
    Calls Tryd.prog 32 #[v1, v2] w fun e w' => e = .returned (.bool true) ∧ New w w' := by
  obtain ⟨A1, c1, rfl, hl, g1⟩ := h1.get hndOk (by decide)
  obtain ⟨A2, c2, rfl, _, g2⟩ := h2.get hndOk (by decide)
  refine enter ok Tryd.func32 rfl rfl rfl ?_
  refine if_n (fun h => absurd rfl h) (fun _ => ?_)
  refine den_loop (σ := Nat) (fun i => [(0, .slice A1 xs.length c1), (1, .slice A2 xs.length c2), (5, .int .i64 (i : Int))]) (fun m i wl => m + i = xs.length ∧ New w wl) xs.length 0 ⟨rfl, rfl, rfl, trivial⟩ ⟨rfl, New.refl _⟩ ?_
  rintro m i wl frl ⟨hfuel, kl⟩
  refine if_p (fun hlt => ?_) (fun hge => ?_)
  · replace hlt : (i : Int) < (xs.length : Int) := hlt
    have hi : i < xs.length := by omega
    obtain ⟨m, rfl⟩ : ∃ m', m = m' + 1 := ⟨m - 1, by omega⟩
    have inc := incN hi hl
    obtain ⟨a1, cs1, e1, x1, d1⟩ := g1 i hi
    obtain ⟨a2, cs2, e2, x2, d2⟩ := g2 i hi
    generalize xs[i] = x at x1 x2
    obtain rfl := x1
    obtain rfl := x2
    refine draw_ (w := wl) ok (.q 0 (.q 1 (.q 2 (.q 3 (.q 4 (.q 5 (.q 6 (.q 7 (.q 8 .done))))))))) [8] (New wl) (by kernel_rfl) (by kernel_rfl) (by kernel_rfl) (by kernel_rfl) (by kernel_rfl) (New.drew _) ?_
    refine And.intro (by omega) (And.intro hlt ?_)
    refine some_at e1 ?_
    refine loadNC_row (vs := [zi x.from_, zi x.to, zi x.at_, zi x.cls]) (fun j u hu w'' hw => by rw [Int.toNat_natCast]; exact (kl.trans hw).cell (d1 j u hu)) rfl ?_
    refine And.intro (by omega) (And.intro hlt ?_)
    refine some_at e2 ?_
    refine loadNC_row (vs := [zi x.from_, zi x.to, zi x.at_, zi x.cls]) (fun j u hu w'' hw => by rw [Int.toNat_natCast]; exact (kl.trans hw).cell (d2 j u hu)) rfl ?_
    refine Exists.intro (.bool (!(decide (x.from_ = x.from_) && (decide (x.to = x.to) && (decide (x.at_ = x.at_) && (decide (x.cls = x.cls) && true)))))) (And.intro (fun w'' _ => agg_cmp ok rfl rfl rfl (by kernel_rfl) (by kernel_rfl) rfl rfl rfl (!(decide (x.from_ = x.from_) && (decide (x.to = x.to) && (decide (x.at_ = x.at_) && (decide (x.cls = x.cls) && true))))) (.inr ⟨rfl, by exact rfl⟩) w'') ?_)
    refine if_no (by simp) ?_
    exact ⟨m, i + 1, by omega, ⟨rfl, rfl, inc, trivial⟩, by omega, kl.trans (New.drew _)⟩
  · exact ⟨rfl, kl⟩
theorem SameFields_ok (v1 v2 : Value) (xs : List Fld) (S1 S2 : Nat → Prop) (w : World) (h1 : LRep fldR w S1 v1 xs) (h2 : LRep fldR w S2 v2 xs) :
    Calls Tryd.prog 31 #[v1, v2] w fun e w' => e = .returned (.bool true) ∧ New w w' := by
  obtain ⟨A1, c1, rfl, hl, g1⟩ := h1.get fldOk (by decide)
  obtain ⟨A2, c2, rfl, _, g2⟩ := h2.get fldOk (by decide)
  refine enter ok Tryd.func31 rfl rfl rfl ?_
  refine if_n (fun h => absurd rfl h) (fun _ => ?_)
  refine den_loop (σ := Nat) (fun i => [(0, .slice A1 xs.length c1), (1, .slice A2 xs.length c2), (5, .int .i64 (i : Int))]) (fun m i wl => m + i = xs.length ∧ New w wl) xs.length 0 ⟨rfl, rfl, rfl, trivial⟩ ⟨rfl, New.refl _⟩ ?_
  rintro m i wl frl ⟨hfuel, kl⟩
  refine if_p (fun hlt => ?_) (fun hge => ?_)
  · replace hlt : (i : Int) < (xs.length : Int) := hlt
    have hi : i < xs.length := by omega
    obtain ⟨m, rfl⟩ : ∃ m', m = m' + 1 := ⟨m - 1, by omega⟩
    have inc := incN hi hl
    obtain ⟨a1, cs1, e1, x1, d1⟩ := g1 i hi
    obtain ⟨a2, cs2, e2, x2, d2⟩ := g2 i hi
    generalize xs[i] = x at x1 x2
    obtain rfl := x1
    obtain rfl := x2
    refine draw_ (w := wl) ok (.q 0 (.q 1 (.q 2 (.q 3 (.q 4 (.q 5 (.q 6 (.q 7 (.q 8 .done))))))))) [8] (New wl) (by kernel_rfl) (by kernel_rfl) (by kernel_rfl) (by kernel_rfl) (by kernel_rfl) (New.drew _) ?_
    refine And.intro (by omega) (And.intro hlt ?_)
    refine some_at e1 ?_
    refine loadNC_row (vs := [zi x.acc, strV x.name, strV x.typ]) (fun j u hu w'' hw => by rw [Int.toNat_natCast]; exact (kl.trans hw).cell (d1 j u hu)) rfl ?_
    refine And.intro (by omega) (And.intro hlt ?_)
    refine some_at e2 ?_
    refine loadNC_row (vs := [zi x.acc, strV x.name, strV x.typ]) (fun j u hu w'' hw => by rw [Int.toNat_natCast]; exact (kl.trans hw).cell (d2 j u hu)) rfl ?_
    refine Exists.intro (.bool (!(decide (x.acc = x.acc) && (decide ((⟨x.name.toArray⟩ : ByteArray) = ⟨x.name.toArray⟩) && (decide ((⟨x.typ.toArray⟩ : ByteArray) = ⟨x.typ.toArray⟩) && true))))) (And.intro (fun w'' _ => agg_cmp ok rfl rfl rfl (by kernel_rfl) (by kernel_rfl) rfl rfl rfl (!(decide (x.acc = x.acc) && (decide ((⟨x.name.toArray⟩ : ByteArray) = ⟨x.name.toArray⟩) && (decide ((⟨x.typ.toArray⟩ : ByteArray) = ⟨x.typ.toArray⟩) && true)))) (.inr ⟨rfl, by exact rfl⟩) w'') ?_)
    refine if_no (by simp) ?_
    exact ⟨m, i + 1, by omega, ⟨rfl, rfl, inc, trivial⟩, by omega, kl.trans (New.drew _)⟩
  · exact ⟨rfl, kl⟩
theorem SameMaps_ok (v1 v2 : Value) (xs : List Mp) (S1 S2 : Nat → Prop) (w : World) (h1 : LRep mpR w S1 v1 xs) (h2 : LRep mpR w S2 v2 xs) :
    Calls Tryd.prog 33 #[v1, v2] w fun e w' => e = .returned (.bool true) ∧ New w w' := by
  obtain ⟨A1, c1, rfl, hl, g1⟩ := h1.get mpOk (by decide)
  obtain ⟨A2, c2, rfl, _, g2⟩ := h2.get mpOk (by decide)
  refine enter ok Tryd.func33 rfl rfl rfl ?_
  refine if_n (fun h => absurd rfl h) (fun _ => ?_)
  refine den_loop (σ := Nat) (fun i => [(0, .slice A1 xs.length c1), (1, .slice A2 xs.length c2), (5, .int .i64 (i : Int))]) (fun m i wl => m + i = xs.length ∧ New w wl) xs.length 0 ⟨rfl, rfl, rfl, trivial⟩ ⟨rfl, New.refl _⟩ ?_
  rintro m i wl frl ⟨hfuel, kl⟩
  refine if_p (fun hlt => ?_) (fun hge => ?_)
  · replace hlt : (i : Int) < (xs.length : Int) := hlt
    have hi : i < xs.length := by omega
    obtain ⟨m, rfl⟩ : ∃ m', m = m' + 1 := ⟨m - 1, by omega⟩
    have inc := incN hi hl
    obtain ⟨a1, cs1, e1, x1, d1⟩ := g1 i hi
    obtain ⟨a2, cs2, e2, x2, d2⟩ := g2 i hi
    generalize xs[i] = x at x1 x2
    obtain ⟨_, _, rfl, l1, k1⟩ := x1
    obtain ⟨_, _, rfl, l2, k2⟩ := x2
    obtain ⟨B1, b1, rfl, _⟩ := l1.get tyOk (by decide)
    obtain ⟨B2, b2, rfl, _⟩ := l2.get tyOk (by decide)
    obtain ⟨D1, q1, rfl, _⟩ := k1.get tyOk (by decide)
    obtain ⟨D2, q2, rfl, _⟩ := k2.get tyOk (by decide)
    refine draw_ (w := wl) ok (.q 0 (.q 1 (.q 2 (.q 3 (.q 4 (.q 5 (.q 6 (.q 7 (.q 8 (.q 9 (.q 10 (.q 11 (.q 12 (.q 13 (.q 14 (.q 15 (.q 16 (.q 17 (.q 18 (.q 19 (.q 20 (.q 21 (.e 22 (.q 23 (.q 24 (.q 25 (.q 26 (.q 27 (.q 28 (.q 29 (.q 30 (.q 31 (.q 32 (.q 33 (.q 34 (.q 35 (.e 36 (.q 37 (.q 38 .done))))))))))))))))))))))))))))))))))))))) [38] (New wl) (by kernel_rfl) (by kernel_rfl) (by kernel_rfl) (by kernel_rfl) (by kernel_rfl) (New.drew _) ?_
    refine And.intro (by omega) (And.intro hlt ?_)
    refine some_at e1 ?_
    refine Exists.intro x.at_ (And.intro (fun w'' hw => by rw [Int.toNat_natCast]; exact (kl.trans hw).cell (d1 0 _ rfl)) ?_)
    refine And.intro (by omega) (And.intro hlt ?_)
    refine some_at e2 ?_
    refine Exists.intro x.at_ (And.intro (fun w'' hw => by rw [Int.toNat_natCast]; exact (kl.trans hw).cell (d2 0 _ rfl)) ?_)
    refine if_n (fun h => absurd rfl h) (fun _ => ?_)
    have kd := kl.trans (New.drew wl)
    refine And.intro (by omega) (And.intro hlt ?_)
    refine some_at e1 ?_
    refine Exists.intro B1 (Exists.intro x.locals.length (Exists.intro b1 (And.intro (fun w'' hw => by rw [Int.toNat_natCast]; exact (kl.trans hw).cell (d1 1 _ rfl)) ?_)))
    refine And.intro (by omega) (And.intro hlt ?_)
    refine some_at e2 ?_
    refine Exists.intro B2 (Exists.intro x.locals.length (Exists.intro b2 (And.intro (fun w'' hw => by rw [Int.toNat_natCast]; exact (kl.trans hw).cell (d2 1 _ rfl)) ?_)))
    refine call_ (SameTypes_ok _ _ x.locals S1 S2 wl.drew (LRep.mod tyOk (by decide) l1 (kd.mod.mono fun _ _ e => False.elim e)) (LRep.mod tyOk (by decide) l2 (kd.mod.mono fun _ _ e => False.elim e))) ?_
    rintro e w3 ⟨rfl, n3⟩
    refine ⟨_, rfl, ?_⟩
    refine Exists.intro (New wl) (And.intro (fun _ h => h) (And.intro ((New.drew wl).trans n3) ?_))
    have k3 := kd.trans n3
    refine And.intro (by omega) (And.intro hlt ?_)
    refine some_at e1 ?_
    refine Exists.intro D1 (Exists.intro x.stack.length (Exists.intro q1 (And.intro (fun w'' hw => by rw [Int.toNat_natCast]; exact (kl.trans hw).cell (d1 2 _ rfl)) ?_)))
    refine And.intro (by omega) (And.intro hlt ?_)
    refine some_at e2 ?_
    refine Exists.intro D2 (Exists.intro x.stack.length (Exists.intro q2 (And.intro (fun w'' hw => by rw [Int.toNat_natCast]; exact (kl.trans hw).cell (d2 2 _ rfl)) ?_)))
    refine call_ (SameTypes_ok _ _ x.stack S1 S2 w3 (LRep.mod tyOk (by decide) k1 (k3.mod.mono fun _ _ e => False.elim e)) (LRep.mod tyOk (by decide) k2 (k3.mod.mono fun _ _ e => False.elim e))) ?_
    rintro e w4 ⟨rfl, n4⟩
    refine ⟨_, rfl, ?_⟩
    refine Exists.intro (New wl) (And.intro (fun _ h => h) (And.intro ((New.drew wl).trans (n3.trans n4)) ?_))
    exact ⟨m, i + 1, by omega, ⟨rfl, rfl, inc, trivial⟩, by omega, k3.trans n4⟩
  · exact ⟨rfl, kl⟩
theorem cellB3 {w : World} {b : Nat} {arr : Array Value} {t : TypeId} {i j : Nat} {u : Value} (hb : w.heap[b]? = some (.cells arr t (0, 0))) (hu : arr[i + j]? = some u) : w.cell? (((⟨b, 0, none⟩ : Addr).add i).add j) = some u := by
  rw [add_add_]
  exact cellB hb hu
theorem one_mth (n1 : Int) (z1 z2 : List UInt8) (a b : Int) (A1 A2 A3 : Option Addr) (n1' c1 n2 c2 n3 c3 : Nat) : ∀ u ∈ [zi n1, strV z1, strV z2, zi a, zi b, Value.slice A1 n1' c1, Value.slice A2 n2 c2, Value.slice A3 n3 c3], u.oneCell' = true := fun u hu => by
  simp only [List.mem_cons, List.not_mem_nil, or_false] at hu
  rcases hu with rfl | rfl | rfl | rfl | rfl | rfl | rfl | rfl <;> rfl
/-- Two methods' blocks, compared. -/
theorem SameClass_ok (cs1 cs2 : List Value) (m : Cls) (S1 S2 : Nat → Prop) (w : World) (h1 : clsR w S1 cs1 m) (h2 : clsR w S2 cs2 m) (hp : ∀ x ∈ m.pool, EntOk x) :
    Calls Tryd.prog 12 #[.agg cs1.toArray, .agg cs2.toArray] w fun e w' => e = .returned (.bool true) ∧ New w w' := by
  obtain ⟨_, _, _, rfl, lp1, lf1, lm1⟩ := h1
  obtain ⟨A1, a1, rfl, pl1, _⟩ := pool_row lp1 hp
  obtain ⟨F1, f1, rfl, _⟩ := lf1.get fldOk (by decide)
  have lm10 := lm1
  obtain ⟨M1, m1, rfl, hml, g1⟩ := lm1.get mthOk (by decide)
  obtain ⟨_, _, _, rfl, lp2, lf2, lm2⟩ := h2
  obtain ⟨A2, a2, rfl, pl2, _⟩ := pool_row lp2 hp
  obtain ⟨F2, f2, rfl, _⟩ := lf2.get fldOk (by decide)
  have lm20 := lm2
  obtain ⟨M2, m2, rfl, hml, g2⟩ := lm2.get mthOk (by decide)
  refine enter ok Tryd.func12 rfl rfl rfl ?_
  refine seq_cut (σ := Nat × Nat) (fun t => [(2, .pointer (some ⟨t.1, 0, none⟩)), (3, .pointer (some ⟨t.2, 0, none⟩))]) (fun t w' => New w w' ∧ w'.heap[t.1]? = some (.cells #[.slice A1 m.pool.length a1, strV m.name, strV m.super, .slice F1 m.fields.length f1, .slice M1 m.methods.length m1] 26 (0, 0)) ∧ w'.heap[t.2]? = some (.cells #[.slice A2 m.pool.length a2, strV m.name, strV m.super, .slice F2 m.fields.length f2, .slice M2 m.methods.length m2] 26 (0, 0))) ?_ ?_
  rotate_left
  · intro K hK
    have n1 := New.alloc w (.cells #[.slice A1 m.pool.length a1, strV m.name, strV m.super, .slice F1 m.fields.length f1, .slice M1 m.methods.length m1] 26)
    have n2 := New.alloc (w.alloc (.cells #[.slice A1 m.pool.length a1, strV m.name, strV m.super, .slice F1 m.fields.length f1, .slice M1 m.methods.length m1] 26)) (.cells #[.slice A2 m.pool.length a2, strV m.name, strV m.super, .slice F2 m.fields.length f2, .slice M2 m.methods.length m2] 26)
    exact hK (w.heap.size, (w.alloc (.cells #[.slice A1 m.pool.length a1, strV m.name, strV m.super, .slice F1 m.fields.length f1, .slice M1 m.methods.length m1] 26)).heap.size) _ _ ⟨rfl, rfl, trivial⟩ ⟨n1.trans n2, n2.blk (heap_alloc_new w (.cells #[.slice A1 m.pool.length a1, strV m.name, strV m.super, .slice F1 m.fields.length f1, .slice M1 m.methods.length m1] 26)), heap_alloc_new (w.alloc (.cells #[.slice A1 m.pool.length a1, strV m.name, strV m.super, .slice F1 m.fields.length f1, .slice M1 m.methods.length m1] 26)) (.cells #[.slice A2 m.pool.length a2, strV m.name, strV m.super, .slice F2 m.fields.length f2, .slice M2 m.methods.length m2] 26)⟩
  rintro ⟨b1, b2⟩ wa fra ⟨na, ha1, ha2⟩
  dsimp only at ha1 ha2
  refine seq_cut (σ := Unit) (fun _ => [(2, .pointer (some ⟨b1, 0, none⟩)), (3, .pointer (some ⟨b2, 0, none⟩))]) (fun _ w' => New wa w') ?_ ?_
  rotate_left
  · intro K hK
    refine Exists.intro (⟨m.name.toArray⟩ : ByteArray) (And.intro (cellB ha1 rfl) ?_)
    refine Exists.intro (⟨m.name.toArray⟩ : ByteArray) (And.intro (cellB ha2 rfl) ?_)
    refine if_n (fun h => absurd rfl h) (fun _ => ?_)
    refine Exists.intro (⟨m.super.toArray⟩ : ByteArray) (And.intro (cellB ha1 rfl) ?_)
    refine Exists.intro (⟨m.super.toArray⟩ : ByteArray) (And.intro (cellB ha2 rfl) ?_)
    refine if_n (fun h => absurd rfl h) (fun _ => ?_)
    refine Exists.intro A1 (Exists.intro m.pool.length (Exists.intro a1 (And.intro (cellB ha1 rfl) ?_)))
    refine Exists.intro A2 (Exists.intro m.pool.length (Exists.intro a2 (And.intro (cellB ha2 rfl) ?_)))
    refine call_ (Pool.SameEntries_ok A1 A2 _ a1 _ a2 m.pool wa (pl1.new na) (pl2.new na)) ?_
    rintro e wb ⟨rfl, nb⟩
    refine ⟨_, rfl, ?_⟩
    refine Exists.intro F1 (Exists.intro m.fields.length (Exists.intro f1 (And.intro (cellB (nb.blk ha1) rfl) ?_)))
    refine Exists.intro F2 (Exists.intro m.fields.length (Exists.intro f2 (And.intro (cellB (nb.blk ha2) rfl) ?_)))
    have nab := na.trans nb
    refine call_ (SameFields_ok _ _ m.fields S1 S2 wb (LRep.mod fldOk (by decide) lf1 (nab.mod.mono fun _ _ e => False.elim e)) (LRep.mod fldOk (by decide) lf2 (nab.mod.mono fun _ _ e => False.elim e))) ?_
    rintro e wc ⟨rfl, nc⟩
    refine ⟨_, rfl, ?_⟩
    have nbc := nb.trans nc
    refine Exists.intro M1 (Exists.intro m.methods.length (Exists.intro m1 (And.intro (cellB (nbc.blk ha1) rfl) ?_)))
    refine Exists.intro M2 (Exists.intro m.methods.length (Exists.intro m2 (And.intro (cellB (nbc.blk ha2) rfl) ?_)))
    refine if_n (fun h => absurd rfl h) (fun _ => ?_)
    exact hK () _ _ ⟨rfl, rfl, trivial⟩ nbc
  rintro _ wb frb nb
  have nab := na.trans nb
  refine den_loop (σ := Nat) (fun i => [(2, .pointer (some ⟨b1, 0, none⟩)), (3, .pointer (some ⟨b2, 0, none⟩)), (5, .int .i64 (i : Int))]) (fun q i wl => q + i = m.methods.length ∧ New wa wl) m.methods.length 0 ⟨rfl, rfl, rfl, trivial⟩ ⟨rfl, nb⟩ ?_
  rintro q i wl frl ⟨hfuel, kl⟩
  have hl1 := kl.blk ha1
  have hl2 := kl.blk ha2
  have nl := na.trans kl
  refine Exists.intro M1 (Exists.intro m.methods.length (Exists.intro m1 (And.intro (cellB hl1 rfl) ?_)))
  refine if_p (fun hlt => ?_) (fun hge => ?_)
  rotate_left
  · exact ⟨rfl, nl⟩
  replace hlt : (i : Int) < (m.methods.length : Int) := hlt
  have hi : i < m.methods.length := by omega
  obtain ⟨q, rfl⟩ : ∃ q', q = q' + 1 := ⟨q - 1, by omega⟩
  have inc := incN hi hml
  obtain ⟨_, _, he1, _, g1⟩ := (LRep.mod mthOk (by decide) lm10 (nl.mod.mono fun _ _ e => False.elim e)).get mthOk (by decide)
  obtain ⟨_, _, he2, _, g2⟩ := (LRep.mod mthOk (by decide) lm20 (nl.mod.mono fun _ _ e => False.elim e)).get mthOk (by decide)
  cases he1
  cases he2
  obtain ⟨p1, cs1, e1, x1, y1⟩ := g1 i hi
  obtain ⟨p2, cs2, e2, x2, y2⟩ := g2 i hi
  generalize m.methods[i] = x at x1 x2
  obtain ⟨_, _, _, rfl, u1, v1, z1⟩ := x1
  obtain ⟨_, _, _, rfl, u2, v2, z2⟩ := x2
  obtain ⟨B1, c1, rfl, row1, _⟩ := bytes_row u1
  obtain ⟨B2, c2, rfl, row2, _⟩ := bytes_row u2
  obtain ⟨H1, h1, rfl, _⟩ := v1.get hndOk (by decide)
  obtain ⟨H2, h2, rfl, _⟩ := v2.get hndOk (by decide)
  obtain ⟨D1, d1, rfl, _⟩ := z1.get mpOk (by decide)
  obtain ⟨D2, d2, rfl, _⟩ := z2.get mpOk (by decide)
  refine seq_cut (σ := Unit) (fun _ => [(2, .pointer (some ⟨b1, 0, none⟩)), (3, .pointer (some ⟨b2, 0, none⟩)), (5, .int .i64 (i : Int))]) (fun _ w' => New wl w') ?_ ?_
  · rintro _ wz frz nz
    exact ⟨q, i + 1, by omega, ⟨rfl, rfl, inc, trivial⟩, by omega, kl.trans nz⟩
  intro K hK0
  refine block_ ?_
  refine seq_cut (σ := Nat × Nat) (fun t => [(2, .pointer (some ⟨b1, 0, none⟩)), (3, .pointer (some ⟨b2, 0, none⟩)), (5, .int .i64 (i : Int)), (6, .pointer (some ⟨t.1, 0, none⟩)), (7, .pointer (some ⟨t.2, 0, none⟩))]) (fun t w' => New wl w' ∧ w'.heap[t.1]? = some (.cells #[zi x.acc, strV x.name, strV x.typ, zi x.code.stack, zi x.code.locals, .slice B1 x.code.bytes.length c1, .slice H1 x.code.hands.length h1, .slice D1 x.code.maps.length d1] 36 (0, 0)) ∧ w'.heap[t.2]? = some (.cells #[zi x.acc, strV x.name, strV x.typ, zi x.code.stack, zi x.code.locals, .slice B2 x.code.bytes.length c2, .slice H2 x.code.hands.length h2, .slice D2 x.code.maps.length d2] 36 (0, 0))) ?_ ?_
  rotate_left
  · intro K hK
    refine draw_ (w := wl) ok (.q 0 (.q 1 (.q 2 (.q 3 (.q 4 (.q 5 (.q 6 (.q 7 (.q 8 (.q 9 (.br (.e 10 (.e 11 (.e 12 (.e 13 .done)))) (.e 11 (.e 10 (.e 12 (.e 13 .done))))))))))))))) [13] (New wl) (by kernel_rfl) (by kernel_rfl) (by kernel_rfl) (by kernel_rfl) (by kernel_rfl) (New.drew _) ?_
    refine Exists.intro M1 (Exists.intro m.methods.length (Exists.intro m1 (And.intro (fun w'' hw => cellB (hw.blk hl1) rfl) ?_)))
    refine And.intro (by omega) (And.intro hlt ?_)
    refine some_at e1 ?_
    refine loadNC_row (vs := [zi x.acc, strV x.name, strV x.typ, zi x.code.stack, zi x.code.locals, .slice B1 x.code.bytes.length c1, .slice H1 x.code.hands.length h1, .slice D1 x.code.maps.length d1]) (fun j u hu w'' hw => by rw [Int.toNat_natCast]; exact hw.cell (y1 j u hu)) rfl ?_
    refine Exists.intro M2 (Exists.intro m.methods.length (Exists.intro m2 (And.intro (fun w'' hw => cellB (hw.blk hl2) rfl) ?_)))
    refine And.intro (by omega) (And.intro hlt ?_)
    refine some_at e2 ?_
    refine loadNC_row (vs := [zi x.acc, strV x.name, strV x.typ, zi x.code.stack, zi x.code.locals, .slice B2 x.code.bytes.length c2, .slice H2 x.code.hands.length h2, .slice D2 x.code.maps.length d2]) (fun j u hu w'' hw => by rw [Int.toNat_natCast]; exact hw.cell (y2 j u hu)) rfl ?_
    refine And.intro ?_ ?_
    · have na := New.alloc wl.drew (.cells #[zi 0, .string ⟨#[]⟩, .string ⟨#[]⟩, zi 0, zi 0, .slice none 0 0, .slice none 0 0, .slice none 0 0] 36)
      have ha := heap_alloc_new wl.drew (.cells #[zi 0, .string ⟨#[]⟩, .string ⟨#[]⟩, zi 0, zi 0, .slice none 0 0, .slice none 0 0, .slice none 0 0] 36)
      have sa : (wl.drew.alloc (.cells #[zi 0, .string ⟨#[]⟩, .string ⟨#[]⟩, zi 0, zi 0, .slice none 0 0, .slice none 0 0, .slice none 0 0] 36)).heap.size = wl.drew.heap.size + 1 := by simp
      have zd : wl.drew.heap.size = wl.heap.size := rfl
      refine Exists.intro (New wl) (And.intro (fun _ h => h) (And.intro ((New.drew wl).trans na) ?_))
      have hX0 : wl.heap.size ≤ wl.drew.heap.size := by omega
      have hY0 : wl.heap.size ≤ (wl.drew.alloc (.cells #[zi 0, .string ⟨#[]⟩, .string ⟨#[]⟩, zi 0, zi 0, .slice none 0 0, .slice none 0 0, .slice none 0 0] 36)).heap.size := by omega
      have hXY : ¬ wl.drew.heap.size = (wl.drew.alloc (.cells #[zi 0, .string ⟨#[]⟩, .string ⟨#[]⟩, zi 0, zi 0, .slice none 0 0, .slice none 0 0, .slice none 0 0] 36)).heap.size := by omega
      have nb := New.alloc (wl.drew.alloc (.cells #[zi 0, .string ⟨#[]⟩, .string ⟨#[]⟩, zi 0, zi 0, .slice none 0 0, .slice none 0 0, .slice none 0 0] 36)) (.cells #[zi 0, .string ⟨#[]⟩, .string ⟨#[]⟩, zi 0, zi 0, .slice none 0 0, .slice none 0 0, .slice none 0 0] 36)
      have hb := heap_alloc_new (wl.drew.alloc (.cells #[zi 0, .string ⟨#[]⟩, .string ⟨#[]⟩, zi 0, zi 0, .slice none 0 0, .slice none 0 0, .slice none 0 0] 36)) (.cells #[zi 0, .string ⟨#[]⟩, .string ⟨#[]⟩, zi 0, zi 0, .slice none 0 0, .slice none 0 0, .slice none 0 0] 36)
      refine Exists.intro (New wl) (And.intro (fun _ h => h) (And.intro (((New.drew wl).trans na).trans nb) ?_))
      refine And.intro rfl ?_
      refine storeN_all (vs := [zi x.acc, strV x.name, strV x.typ, zi x.code.stack, zi x.code.locals, .slice B1 x.code.bytes.length c1, .slice H1 x.code.hands.length h1, .slice D1 x.code.maps.length d1]) (nb.blk ha) rfl (one_mth _ _ _ _ _ _ _ _ _ _ _ _ _ _) ?_
      intro wc hXc mc sc
      refine Exists.intro (New wl) (And.intro (fun _ h => h) (And.intro ((((New.drew wl).trans na).trans nb).st mc hX0) ?_))
      refine And.intro rfl ?_
      refine storeN_all (vs := [zi x.acc, strV x.name, strV x.typ, zi x.code.stack, zi x.code.locals, .slice B2 x.code.bytes.length c2, .slice H2 x.code.hands.length h2, .slice D2 x.code.maps.length d2]) (mc.blk hb (fun e => hXY e.symm)) rfl (one_mth _ _ _ _ _ _ _ _ _ _ _ _ _ _) ?_
      intro wd hYd md sd
      exact hK (wl.drew.heap.size, (wl.drew.alloc (.cells #[zi 0, .string ⟨#[]⟩, .string ⟨#[]⟩, zi 0, zi 0, .slice none 0 0, .slice none 0 0, .slice none 0 0] 36)).heap.size) _ _ ⟨rfl, rfl, rfl, rfl, rfl, trivial⟩ ⟨((((New.drew wl).trans na).trans nb).st mc hX0).st md hY0, md.blk hXc hXY, hYd⟩
    · have na := New.alloc wl.drew (.cells #[zi 0, .string ⟨#[]⟩, .string ⟨#[]⟩, zi 0, zi 0, .slice none 0 0, .slice none 0 0, .slice none 0 0] 36)
      have ha := heap_alloc_new wl.drew (.cells #[zi 0, .string ⟨#[]⟩, .string ⟨#[]⟩, zi 0, zi 0, .slice none 0 0, .slice none 0 0, .slice none 0 0] 36)
      have sa : (wl.drew.alloc (.cells #[zi 0, .string ⟨#[]⟩, .string ⟨#[]⟩, zi 0, zi 0, .slice none 0 0, .slice none 0 0, .slice none 0 0] 36)).heap.size = wl.drew.heap.size + 1 := by simp
      have zd : wl.drew.heap.size = wl.heap.size := rfl
      refine Exists.intro (New wl) (And.intro (fun _ h => h) (And.intro ((New.drew wl).trans na) ?_))
      have hX0 : wl.heap.size ≤ (wl.drew.alloc (.cells #[zi 0, .string ⟨#[]⟩, .string ⟨#[]⟩, zi 0, zi 0, .slice none 0 0, .slice none 0 0, .slice none 0 0] 36)).heap.size := by omega
      have hY0 : wl.heap.size ≤ wl.drew.heap.size := by omega
      have hXY : ¬ (wl.drew.alloc (.cells #[zi 0, .string ⟨#[]⟩, .string ⟨#[]⟩, zi 0, zi 0, .slice none 0 0, .slice none 0 0, .slice none 0 0] 36)).heap.size = wl.drew.heap.size := by omega
      have nb := New.alloc (wl.drew.alloc (.cells #[zi 0, .string ⟨#[]⟩, .string ⟨#[]⟩, zi 0, zi 0, .slice none 0 0, .slice none 0 0, .slice none 0 0] 36)) (.cells #[zi 0, .string ⟨#[]⟩, .string ⟨#[]⟩, zi 0, zi 0, .slice none 0 0, .slice none 0 0, .slice none 0 0] 36)
      have hb := heap_alloc_new (wl.drew.alloc (.cells #[zi 0, .string ⟨#[]⟩, .string ⟨#[]⟩, zi 0, zi 0, .slice none 0 0, .slice none 0 0, .slice none 0 0] 36)) (.cells #[zi 0, .string ⟨#[]⟩, .string ⟨#[]⟩, zi 0, zi 0, .slice none 0 0, .slice none 0 0, .slice none 0 0] 36)
      refine Exists.intro (New wl) (And.intro (fun _ h => h) (And.intro (((New.drew wl).trans na).trans nb) ?_))
      refine And.intro rfl ?_
      refine storeN_all (vs := [zi x.acc, strV x.name, strV x.typ, zi x.code.stack, zi x.code.locals, .slice B1 x.code.bytes.length c1, .slice H1 x.code.hands.length h1, .slice D1 x.code.maps.length d1]) hb rfl (one_mth _ _ _ _ _ _ _ _ _ _ _ _ _ _) ?_
      intro wc hXc mc sc
      refine Exists.intro (New wl) (And.intro (fun _ h => h) (And.intro ((((New.drew wl).trans na).trans nb).st mc hX0) ?_))
      refine And.intro rfl ?_
      refine storeN_all (vs := [zi x.acc, strV x.name, strV x.typ, zi x.code.stack, zi x.code.locals, .slice B2 x.code.bytes.length c2, .slice H2 x.code.hands.length h2, .slice D2 x.code.maps.length d2]) (mc.blk (nb.blk ha) (fun e => hXY e.symm)) rfl (one_mth _ _ _ _ _ _ _ _ _ _ _ _ _ _) ?_
      intro wd hYd md sd
      exact hK ((wl.drew.alloc (.cells #[zi 0, .string ⟨#[]⟩, .string ⟨#[]⟩, zi 0, zi 0, .slice none 0 0, .slice none 0 0, .slice none 0 0] 36)).heap.size, wl.drew.heap.size) _ _ ⟨rfl, rfl, rfl, rfl, rfl, trivial⟩ ⟨((((New.drew wl).trans na).trans nb).st mc hX0).st md hY0, md.blk hXc hXY, hYd⟩
  rintro ⟨X, Y⟩ wx frx ⟨nx, hX, hY⟩
  dsimp only at hX hY
  refine Exists.intro x.acc (And.intro (cellB hX rfl) ?_)
  refine Exists.intro x.acc (And.intro (cellB hY rfl) ?_)
  refine if_n (fun h => absurd rfl h) (fun _ => ?_)
  refine Exists.intro (⟨x.name.toArray⟩ : ByteArray) (And.intro (cellB hX rfl) ?_)
  refine Exists.intro (⟨x.name.toArray⟩ : ByteArray) (And.intro (cellB hY rfl) ?_)
  refine if_n (fun h => absurd rfl h) (fun _ => ?_)
  refine Exists.intro (⟨x.typ.toArray⟩ : ByteArray) (And.intro (cellB hX rfl) ?_)
  refine Exists.intro (⟨x.typ.toArray⟩ : ByteArray) (And.intro (cellB hY rfl) ?_)
  refine if_n (fun h => absurd rfl h) (fun _ => ?_)
  refine Exists.intro x.code.stack (And.intro (cellB3 hX rfl) ?_)
  refine Exists.intro x.code.stack (And.intro (cellB3 hY rfl) ?_)
  refine if_n (fun h => absurd rfl h) (fun _ => ?_)
  refine Exists.intro x.code.locals (And.intro (cellB3 hX rfl) ?_)
  refine Exists.intro x.code.locals (And.intro (cellB3 hY rfl) ?_)
  refine if_n (fun h => absurd rfl h) (fun _ => ?_)
  refine Exists.intro B1 (Exists.intro x.code.bytes.length (Exists.intro c1 (And.intro (cellB3 ((New.refl wx).blk hX) rfl) ?_)))
  refine Exists.intro B2 (Exists.intro x.code.bytes.length (Exists.intro c2 (And.intro (cellB3 ((New.refl wx).blk hY) rfl) ?_)))
  refine call_ (Base.SameBytes_ok B1 B2 _ c1 _ c2 x.code.bytes x.code.bytes wx rfl rfl (row1.new nx) (row2.new nx)) ?_
  rintro e wy ⟨rfl, hwy⟩
  obtain rfl := hwy.symm
  refine ⟨_, rfl, ?_⟩
  refine if_n (fun h => absurd rfl h) (fun _ => ?_)
  refine Exists.intro H1 (Exists.intro x.code.hands.length (Exists.intro h1 (And.intro (cellB3 ((New.refl wx).blk hX) rfl) ?_)))
  refine Exists.intro H2 (Exists.intro x.code.hands.length (Exists.intro h2 (And.intro (cellB3 ((New.refl wx).blk hY) rfl) ?_)))
  refine call_ (SameHandlers_ok _ _ x.code.hands S1 S2 wx (LRep.mod hndOk (by decide) v1 (nx.mod.mono fun _ _ e => False.elim e)) (LRep.mod hndOk (by decide) v2 (nx.mod.mono fun _ _ e => False.elim e))) ?_
  rintro e wy ⟨rfl, ny⟩
  refine ⟨_, rfl, ?_⟩
  have nxy := nx.trans ny
  refine Exists.intro D1 (Exists.intro x.code.maps.length (Exists.intro d1 (And.intro (cellB3 (ny.blk hX) rfl) ?_)))
  refine Exists.intro D2 (Exists.intro x.code.maps.length (Exists.intro d2 (And.intro (cellB3 (ny.blk hY) rfl) ?_)))
  refine call_ (SameMaps_ok _ _ x.code.maps S1 S2 wy (LRep.mod mpOk (by decide) z1 (nxy.mod.mono fun _ _ e => False.elim e)) (LRep.mod mpOk (by decide) z2 (nxy.mod.mono fun _ _ e => False.elim e))) ?_
  rintro e wz ⟨rfl, nz⟩
  refine ⟨_, rfl, ?_⟩
  exact hK0 () _ _ ⟨rfl, rfl, rfl, trivial⟩ (nxy.trans nz)

end Go.Proofs.YtdcaafldnbcdkaaDoor.Class

/-! ### KClone -/
namespace Go.Proofs.YtdcaafldnbcdkaaDoor.Class
open Go Go.Proofs.YtdcaafldnbcdkaaDoor Go.Proofs.YtdcaafldnbcdkaaDoor.Eng Go.Proofs Go.Proofs.YtdcaafldnbcdkaaDoor.Word Go.Proofs.YtdcaafldnbcdkaaDoor.Fmt
open Go.Proofs.YtdcaafldnbcdkaaDoor.Pool (Ent at_ poolF strV entC entV EntOk Pl OkPool both own_low tagAt)
set_option maxRecDepth 10000

/-! ### Rows that may be written -/
/-- A slice's block, of a type, that may be written. -/
def Wrt (w : World) (S : Nat → Prop) (t : TypeId) (sz : Nat) (A : Option Addr) (n : Nat) : Prop := n ≠ 0 → ∃ g cur, A = some ⟨g, 0, none⟩ ∧ w.heap[g]? = some (.cells cur t (0, 0)) ∧ n * sz ≤ cur.size ∧ ¬ S g
structure LO {α : Type} (t : TypeId) (sz : Nat) (R : RepT α) (w : World) (S : Nat → Prop) (v : Value) (xs : List α) : Prop where
  rep : LRep R w S v xs
  wrt : ∀ A c, v = .slice A xs.length c → Wrt w S t sz A xs.length
section
variable {α : Type} {t : TypeId} {sz : Nat} {R : RepT α} {w w' : World} {S S' : Nat → Prop} {v : Value} {xs : List α}
theorem Wrt.mod {A : Option Addr} {n : Nat} (h : Wrt w S t sz A n) (m : Mod S w w') : Wrt w' S t sz A n := fun hn => by
  obtain ⟨g, cur, h1, h2, h3, h4⟩ := h hn
  exact ⟨g, cur, h1, m.blk h2 h4, h3, h4⟩
theorem Wrt.weak {A : Option Addr} {n : Nat} (h : Wrt w S t sz A n) (hs : ∀ b, b < w.heap.size → S' b → S b) : Wrt w S' t sz A n := fun hn => by
  obtain ⟨g, cur, h1, h2, h3, h4⟩ := h hn
  exact ⟨g, cur, h1, h2, h3, fun e => h4 (hs _ (Array.getElem?_eq_some_iff.1 h2).1 e)⟩
theorem LO.mod (hR : RepOk R sz) (hsz : 0 < sz) (h : LO t sz R w S v xs) (m : Mod S w w') : LO t sz R w' S v xs := ⟨h.rep.mod hR hsz m, fun A c e => (h.wrt A c e).mod m⟩
theorem LO.weak (hR : RepOk R sz) (h : LO t sz R w S v xs) (hs : ∀ b, b < w.heap.size → S' b → S b) : LO t sz R w S' v xs := ⟨h.rep.weak hR hs, fun A c e => (h.wrt A c e).weak hs⟩
theorem LO.one (h : LO t sz R w S v xs) : v.oneCell' = true := h.rep.one
theorem row_cells {ts : List (List Value × α)} (hR : RepOk R sz) {S0 : Nat → Prop} {w0 : World} (hm : ∀ y ∈ ts, R w0 S0 y.1 y.2) : ∀ cs ∈ ts.map (·.1), cs.length = sz := by
  intro cs h
  obtain ⟨y, hy, rfl⟩ := List.mem_map.1 h
  exact hR.len (hm y hy)
theorem own_le {b0 b1 n : Nat} {cs : List Value} (h : w.ownsRow b1 t sz v n cs) (hb : b0 ≤ b1) : w.ownsRow b0 t sz v n cs := by
  refine ⟨h.1, ?_⟩
  rcases h.2 with h' | ⟨g, cap, cur, h1, h2, h3⟩
  · exact .inl h'
  · exact .inr ⟨g, cap, cur, h1, Nat.le_trans hb h2, h3⟩
/-- A row of one's own, of members. -/
theorem lo_own (hR : RepOk R sz) {b0 : Nat} {ts : List (List Value × α)} (own : w.ownsRow b0 t sz v xs.length (cellsOf ts)) (e : ts.map (·.2) = xs) (hl : xs.length ≤ 140737488355328) (hS : ∀ b, b0 ≤ b → b < w.heap.size → ¬ S b) (hm : ∀ y ∈ ts, R w S y.1 y.2) : LO t sz R w S v xs := by
  refine ⟨?_, fun A c ev hn => ?_⟩
  · obtain ⟨A, c, rfl, h5, h6, row, ho⟩ := own_slice own
    exact ⟨A, c, ts, rfl, e, h5, h6, hl, row, fun a ha _ => ⟨(ho a ha).2.1, hS _ (ho a ha).1 (ho a ha).2.1⟩, hm⟩
  · rcases own.2 with ⟨_, h0⟩ | ⟨g, cap, cur, hv, hb, hg, hn', hc, hs, _⟩
    · exact absurd h0 hn
    · rw [hv] at ev
      cases ev
      exact ⟨g, cur, rfl, hg, by rw [hs]; exact Nat.mul_le_mul_right _ hn', hS g hb (Array.getElem?_eq_some_iff.1 hg).1⟩
end
def mpO : RepT Mp := fun w S cs x => ∃ a b, cs = [zi x.at_, a, b] ∧ LO 51 2 tyR w S a x.locals ∧ LO 51 2 tyR w S b x.stack
theorem mpO_R {w : World} {S : Nat → Prop} {cs : List Value} {x : Mp} (h : mpO w S cs x) : mpR w S cs x := by
  obtain ⟨a, b, h0, h1, h2⟩ := h
  exact ⟨a, b, h0, h1.rep, h2.rep⟩
theorem mpOOk : RepOk mpO 3 := ⟨fun ⟨a, b, h, h0, h1⟩ m => ⟨a, b, h, h0.mod tyOk (by decide) m, h1.mod tyOk (by decide) m⟩, fun ⟨a, b, h, h0, h1⟩ m => ⟨a, b, h, h0.weak tyOk m, h1.weak tyOk m⟩, fun h => mpOk.len (mpO_R h), fun h => mpOk.one (mpO_R h)⟩
theorem lrep_imp {α : Type} {R R' : RepT α} (hi : ∀ {w : World} {S : Nat → Prop} {cs : List Value} {x : α}, R w S cs x → R' w S cs x) {w : World} {S : Nat → Prop} {v : Value} {xs : List α} (h : LRep R w S v xs) : LRep R' w S v xs := by
  obtain ⟨A, c, ts, h1, h2, h3, h4, h5, h6⟩ := h
  exact ⟨A, c, ts, h1, h2, h3, h4, h5, h6.row, h6.off, fun y hy => hi (h6.mem y hy)⟩
def mthO : RepT Mth := fun w S cs x => ∃ a b c, cs = [zi x.acc, strV x.name, strV x.typ, zi x.code.stack, zi x.code.locals, a, b, c] ∧ LO 5 1 u8R w S a x.code.bytes ∧ LO 46 4 hndR w S b x.code.hands ∧ LO 49 3 mpO w S c x.code.maps
theorem mthO_R {w : World} {S : Nat → Prop} {cs : List Value} {x : Mth} (h : mthO w S cs x) : mthR w S cs x := by
  obtain ⟨a, b, c, h0, h1, h2, h3⟩ := h
  exact ⟨a, b, c, h0, h1.rep, h2.rep, lrep_imp mpO_R h3.rep⟩
theorem mthOOk : RepOk mthO 8 := ⟨fun ⟨a, b, c, h, h0, h1, h2⟩ m => ⟨a, b, c, h, h0.mod u8Ok (by decide) m, h1.mod hndOk (by decide) m, h2.mod mpOOk (by decide) m⟩, fun ⟨a, b, c, h, h0, h1, h2⟩ m => ⟨a, b, c, h, h0.weak u8Ok m, h1.weak hndOk m, h2.weak mpOOk m⟩, fun h => mthOk.len (mthO_R h), fun h => mthOk.one (mthO_R h)⟩
def clsO : RepT Cls := fun w S cs x => ∃ a b c, cs = [a, strV x.name, strV x.super, b, c] ∧ LO 42 5 entR w S a x.pool ∧ LO 44 3 fldR w S b x.fields ∧ LO 36 8 mthO w S c x.methods
theorem clsO_R {w : World} {S : Nat → Prop} {cs : List Value} {x : Cls} (h : clsO w S cs x) : clsR w S cs x := by
  obtain ⟨a, b, c, h0, h1, h2, h3⟩ := h
  exact ⟨a, b, c, h0, h1.rep, h2.rep, lrep_imp mthO_R h3.rep⟩
theorem clsOOk : RepOk clsO 5 := ⟨fun ⟨a, b, c, h, h0, h1, h2⟩ m => ⟨a, b, c, h, h0.mod entOk (by decide) m, h1.mod fldOk (by decide) m, h2.mod mthOOk (by decide) m⟩, fun ⟨a, b, c, h, h0, h1, h2⟩ m => ⟨a, b, c, h, h0.weak entOk m, h1.weak fldOk m, h2.weak mthOOk m⟩, fun h => clsOk.len (clsO_R h), fun h => clsOk.one (clsO_R h)⟩
/-! ### A block of members, written cell by cell -/
structure AR {α : Type} (arr : Array Value) (sz cap : Nat) (ts : List (List Value × α)) : Prop where
  size : arr.size = cap * sz
  le : ts.length ≤ cap
  at_ : ∀ j y, ts[j]? = some y → y.1.length = sz ∧ ∀ k u, y.1[k]? = some u → arr[j * sz + k]? = some u
section
variable {α : Type} {arr : Array Value} {sz cap : Nat} {ts : List (List Value × α)}
theorem AR.put (h : AR arr sz cap ts) {i k : Nat} {y : List Value × α} {v : Value} (hi : ts[i]? = some y) (hk : k < sz) : AR (arr.setIfInBounds (i * sz + k) v) sz cap (ts.set i (y.1.set k v, y.2)) := by
  refine ⟨by simp [h.size], by simpa using h.le, fun j z hz => ?_⟩
  have hil := (List.getElem?_eq_some_iff.1 hi).1
  have hcap : i * sz + k < arr.size := by
    have h1 := h.le
    have h2 : (i + 1) * sz ≤ cap * sz := Nat.mul_le_mul_right _ (by omega)
    rw [Nat.succ_mul] at h2
    rw [h.size]
    omega
  obtain ⟨hyl, hyc⟩ := h.at_ i y hi
  rw [List.getElem?_set] at hz
  split at hz
  · rename_i hij
    subst hij
    cases hz
    refine ⟨by simpa using hyl, fun q u hu => ?_⟩
    rw [List.getElem?_set] at hu
    rw [Array.getElem?_setIfInBounds]
    split at hu
    · rename_i hkq
      subst hkq
      rw [if_pos rfl, if_pos hcap]
      split at hu
      · exact hu
      · cases hu
    · rename_i hkq
      rw [if_neg (by omega)]
      exact hyc q u hu
  · rename_i hij
    obtain ⟨hzl, hzc⟩ := h.at_ j z hz
    refine ⟨hzl, fun q u hu => ?_⟩
    have hq : q < sz := by rw [← hzl]; exact (List.getElem?_eq_some_iff.1 hu).1
    rw [Array.getElem?_setIfInBounds, if_neg]
    · exact hzc q u hu
    · intro e
      rcases Nat.lt_or_ge i j with h1 | h1
      · have h2 : (i + 1) * sz ≤ j * sz := Nat.mul_le_mul_right _ h1
        rw [Nat.succ_mul] at h2
        omega
      · have h2 : (j + 1) * sz ≤ i * sz := Nat.mul_le_mul_right _ (by omega)
        rw [Nat.succ_mul] at h2
        omega
theorem AR.lt (h : AR arr sz cap ts) {i k : Nat} (hi : i < ts.length) (hk : k < sz) : i * sz + k < arr.size := by
  have h1 := h.le
  have h2 : (i + 1) * sz ≤ cap * sz := Nat.mul_le_mul_right _ (by omega)
  rw [Nat.succ_mul] at h2
  rw [h.size]
  omega
theorem ar_own {w : World} {R : RepT α} (hR : RepOk R sz) {S0 : Nat → Prop} {w0 : World} {b0 n : Nat} {v : Value} {t : TypeId} (own : w.ownsRow b0 t sz v n (cellsOf ts)) (hn : n = ts.length) (h0 : n ≠ 0) (hm : ∀ y ∈ ts, R w0 S0 y.1 y.2) : ∃ g cap arr, v = .slice (some ⟨g, 0, none⟩) n cap ∧ b0 ≤ g ∧ g < w.heap.size ∧ w.heap[g]? = some (.cells arr t (0, 0)) ∧ cap ≤ 9223372036854775807 ∧ AR arr sz cap ts := by
  rcases own.2 with ⟨_, h⟩ | ⟨g, cap, cur, hv, hb, hg, hn', hc, hs, ht⟩
  · exact absurd h h0
  · refine ⟨g, cap, cur, hv, hb, (Array.getElem?_eq_some_iff.1 hg).1, hg, by unfold maxLen at hc; omega, hs, by omega, fun j y hy => ?_⟩
    have hj := (List.getElem?_eq_some_iff.1 hy).1
    have hy2 : ts[j] = y := (List.getElem?_eq_some_iff.1 hy).2
    have hmem : y ∈ ts := by rw [← hy2]; exact List.getElem_mem hj
    refine ⟨hR.len (hm y hmem), fun k u hu => ?_⟩
    have := cells_at hR hm j hj k u (by rw [hy2]; exact hu)
    rw [← ht, List.getElem?_take] at this
    split at this
    · rw [Array.getElem?_toList] at this
      exact this
    · cases this
/-- A block of members, read. -/
theorem ar_lrep {w : World} {R : RepT α} (hR : RepOk R sz) (hsz : 0 < sz) {S : Nat → Prop} {g : Nat} {t : TypeId} {xs : List α} (hb : w.heap[g]? = some (.cells arr t (0, 0))) (h : AR arr sz cap ts) (hc : cap ≤ 9223372036854775807) (e : ts.map (·.2) = xs) (hl : xs.length ≤ 140737488355328) (hS : ¬ S g) (hm : ∀ y ∈ ts, R w S y.1 y.2) : LO t sz R w S (.slice (some ⟨g, 0, none⟩) xs.length cap) xs := by
  have hxl : xs.length = ts.length := by rw [← e, List.length_map]
  have hle := h.le
  refine ⟨⟨_, _, ts, rfl, e, by omega, hc, hl, ?_, fun a ha _ => ?_, hm⟩, fun A c ev hn => ?_⟩
  · refine row_of_rows2 (sz := sz) fun i cs hi => ?_
    rw [List.getElem?_map, Option.map_eq_some_iff] at hi
    obtain ⟨y, hy, rfl⟩ := hi
    obtain ⟨h1, h2⟩ := h.at_ i y hy
    refine ⟨h1, _, rfl, fun k u hu => ?_⟩
    rw [add_add_]
    exact cellB hb (h2 k u hu)
  · cases ha
    exact ⟨(Array.getElem?_eq_some_iff.1 hb).1, hS⟩
  · cases ev
    exact ⟨g, arr, rfl, hb, by rw [h.size]; exact Nat.mul_le_mul_right _ (by omega), hS⟩
end
theorem rows_len {sz : Nat} : ∀ css : List (List Value), (∀ cs ∈ css, cs.length = sz) → css.flatten.length = css.length * sz
  | [], _ => by simp
  | c :: r, h => by
    have ih := rows_len r fun cs hc => h cs (List.mem_cons_of_mem _ hc)
    rw [List.flatten_cons, List.length_append, ih, h c List.mem_cons_self, List.length_cons, Nat.succ_mul]
    omega
theorem CloneEnt_ok (v : Value) (xs : List Ent) (S : Nat → Prop) (w : World) (h : LRep entR w S v xs) (hm : xs.length ≤ 5000) :
    Calls Tryd.prog 23 #[v] w fun e w' => ∃ A' c' ts, e = .returned (.slice A' xs.length c') ∧ w'.ownsRow w.heap.size 42 5 (.slice A' xs.length c') xs.length (cellsOf ts) ∧ ts.map (·.2) = xs ∧ (∀ y ∈ ts, entR w S y.1 y.2) ∧ New w w' := by
  obtain ⟨A, c, ts, rfl, h2, h3, h4, h5, h6⟩ := h
  refine enter ok Tryd.func23 rfl rfl rfl ?_
  have hl : xs.length = ts.length := by rw [← h2, List.length_map]
  refine if_ (fun hn => ?_) (fun hn => ?_)
  · cases A with
    | some a => cases hn
    | none =>
      have : ts = [] := by
        cases ts with
        | nil => rfl
        | cons y r =>
          have hlen := entOk.len (h6.mem y List.mem_cons_self)
          obtain ⟨a, ha, _⟩ := h6.row 0 (y.1[0]'(by omega)) (by
            show (y.1 ++ _)[0]? = _
            rw [List.getElem?_append_left (by omega), List.getElem?_eq_getElem])
          cases ha
      subst this
      have hx : xs = [] := by rw [← h2]; rfl
      subst hx
      exact ⟨none, 0, [], rfl, ⟨rfl, .inl ⟨rfl, rfl⟩⟩, rfl, (fun _ h => (by cases h)), New.refl _⟩
  · have n1 := New.alloc w (.cells #[] 42)
    have hcl : (cellsOf ts).length = xs.length * 5 := by
      rw [hl]
      have := rows_len (sz := 5) (ts.map (·.1)) (row_cells entOk h6.mem)
      rw [List.length_map] at this
      exact this
    refine append_ ok rfl rfl rfl rfl (own_lit w [] 42 5 0 w.heap.size (Nat.le_refl _) rfl (by omega)) rfl rfl (h6.row.new n1) hcl ?_ (by decide) rfl (by show (0 + xs.length) * 48 ≤ _; omega) (by omega) (by simp) ?_
    · intro u hu
      obtain ⟨cs, hcs, huc⟩ := List.mem_flatten.1 hu
      obtain ⟨y, hy, rfl⟩ := List.mem_map.1 hcs
      exact entOk.one (h6.mem y hy) u huc
    intro A' c' w' hown hmod
    have e0 : (.slice A' (0 + xs.length) c' : Value) = .slice A' xs.length c' := by rw [Nat.zero_add]
    rw [Nat.zero_add] at hown
    refine ⟨A', c', ts, congrArg Ending.returned e0, hown, h2, h6.mem, Mod.trans n1 hmod fun i hi h => by
        simp only [Value.ownBlock, Option.some.injEq] at h
        omega⟩
theorem CloneFld_ok (v : Value) (xs : List Fld) (S : Nat → Prop) (w : World) (h : LRep fldR w S v xs) (hm : xs.length ≤ 5000) :
    Calls Tryd.prog 24 #[v] w fun e w' => ∃ A' c' ts, e = .returned (.slice A' xs.length c') ∧ w'.ownsRow w.heap.size 44 3 (.slice A' xs.length c') xs.length (cellsOf ts) ∧ ts.map (·.2) = xs ∧ (∀ y ∈ ts, fldR w S y.1 y.2) ∧ New w w' := by
  obtain ⟨A, c, ts, rfl, h2, h3, h4, h5, h6⟩ := h
  refine enter ok Tryd.func24 rfl rfl rfl ?_
  have hl : xs.length = ts.length := by rw [← h2, List.length_map]
  refine if_ (fun hn => ?_) (fun hn => ?_)
  · cases A with
    | some a => cases hn
    | none =>
      have : ts = [] := by
        cases ts with
        | nil => rfl
        | cons y r =>
          have hlen := fldOk.len (h6.mem y List.mem_cons_self)
          obtain ⟨a, ha, _⟩ := h6.row 0 (y.1[0]'(by omega)) (by
            show (y.1 ++ _)[0]? = _
            rw [List.getElem?_append_left (by omega), List.getElem?_eq_getElem])
          cases ha
      subst this
      have hx : xs = [] := by rw [← h2]; rfl
      subst hx
      exact ⟨none, 0, [], rfl, ⟨rfl, .inl ⟨rfl, rfl⟩⟩, rfl, (fun _ h => (by cases h)), New.refl _⟩
  · have n1 := New.alloc w (.cells #[] 44)
    have hcl : (cellsOf ts).length = xs.length * 3 := by
      rw [hl]
      have := rows_len (sz := 3) (ts.map (·.1)) (row_cells fldOk h6.mem)
      rw [List.length_map] at this
      exact this
    refine append_ ok rfl rfl rfl rfl (own_lit w [] 44 3 0 w.heap.size (Nat.le_refl _) rfl (by omega)) rfl rfl (h6.row.new n1) hcl ?_ (by decide) rfl (by show (0 + xs.length) * 40 ≤ _; omega) (by omega) (by simp) ?_
    · intro u hu
      obtain ⟨cs, hcs, huc⟩ := List.mem_flatten.1 hu
      obtain ⟨y, hy, rfl⟩ := List.mem_map.1 hcs
      exact fldOk.one (h6.mem y hy) u huc
    intro A' c' w' hown hmod
    have e0 : (.slice A' (0 + xs.length) c' : Value) = .slice A' xs.length c' := by rw [Nat.zero_add]
    rw [Nat.zero_add] at hown
    refine ⟨A', c', ts, congrArg Ending.returned e0, hown, h2, h6.mem, Mod.trans n1 hmod fun i hi h => by
        simp only [Value.ownBlock, Option.some.injEq] at h
        omega⟩
theorem CloneMth_ok (v : Value) (xs : List Mth) (S : Nat → Prop) (w : World) (h : LRep mthR w S v xs) (hm : xs.length ≤ 5000) :
    Calls Tryd.prog 25 #[v] w fun e w' => ∃ A' c' ts, e = .returned (.slice A' xs.length c') ∧ w'.ownsRow w.heap.size 36 8 (.slice A' xs.length c') xs.length (cellsOf ts) ∧ ts.map (·.2) = xs ∧ (∀ y ∈ ts, mthR w S y.1 y.2) ∧ New w w' := by
  obtain ⟨A, c, ts, rfl, h2, h3, h4, h5, h6⟩ := h
  refine enter ok Tryd.func25 rfl rfl rfl ?_
  have hl : xs.length = ts.length := by rw [← h2, List.length_map]
  refine if_ (fun hn => ?_) (fun hn => ?_)
  · cases A with
    | some a => cases hn
    | none =>
      have : ts = [] := by
        cases ts with
        | nil => rfl
        | cons y r =>
          have hlen := mthOk.len (h6.mem y List.mem_cons_self)
          obtain ⟨a, ha, _⟩ := h6.row 0 (y.1[0]'(by omega)) (by
            show (y.1 ++ _)[0]? = _
            rw [List.getElem?_append_left (by omega), List.getElem?_eq_getElem])
          cases ha
      subst this
      have hx : xs = [] := by rw [← h2]; rfl
      subst hx
      exact ⟨none, 0, [], rfl, ⟨rfl, .inl ⟨rfl, rfl⟩⟩, rfl, (fun _ h => (by cases h)), New.refl _⟩
  · have n1 := New.alloc w (.cells #[] 36)
    have hcl : (cellsOf ts).length = xs.length * 8 := by
      rw [hl]
      have := rows_len (sz := 8) (ts.map (·.1)) (row_cells mthOk h6.mem)
      rw [List.length_map] at this
      exact this
    refine append_ ok rfl rfl rfl rfl (own_lit w [] 36 8 0 w.heap.size (Nat.le_refl _) rfl (by omega)) rfl rfl (h6.row.new n1) hcl ?_ (by decide) rfl (by show (0 + xs.length) * 128 ≤ _; omega) (by omega) (by simp) ?_
    · intro u hu
      obtain ⟨cs, hcs, huc⟩ := List.mem_flatten.1 hu
      obtain ⟨y, hy, rfl⟩ := List.mem_map.1 hcs
      exact mthOk.one (h6.mem y hy) u huc
    intro A' c' w' hown hmod
    have e0 : (.slice A' (0 + xs.length) c' : Value) = .slice A' xs.length c' := by rw [Nat.zero_add]
    rw [Nat.zero_add] at hown
    refine ⟨A', c', ts, congrArg Ending.returned e0, hown, h2, h6.mem, Mod.trans n1 hmod fun i hi h => by
        simp only [Value.ownBlock, Option.some.injEq] at h
        omega⟩
theorem CloneU8_ok (v : Value) (xs : List UInt8) (S : Nat → Prop) (w : World) (h : LRep u8R w S v xs) (hm : xs.length ≤ 5000) :
    Calls Tryd.prog 26 #[v] w fun e w' => ∃ A' c' ts, e = .returned (.slice A' xs.length c') ∧ w'.ownsRow w.heap.size 5 1 (.slice A' xs.length c') xs.length (cellsOf ts) ∧ ts.map (·.2) = xs ∧ (∀ y ∈ ts, u8R w S y.1 y.2) ∧ New w w' := by
  obtain ⟨A, c, ts, rfl, h2, h3, h4, h5, h6⟩ := h
  refine enter ok Tryd.func26 rfl rfl rfl ?_
  have hl : xs.length = ts.length := by rw [← h2, List.length_map]
  refine if_ (fun hn => ?_) (fun hn => ?_)
  · cases A with
    | some a => cases hn
    | none =>
      have : ts = [] := by
        cases ts with
        | nil => rfl
        | cons y r =>
          have hlen := u8Ok.len (h6.mem y List.mem_cons_self)
          obtain ⟨a, ha, _⟩ := h6.row 0 (y.1[0]'(by omega)) (by
            show (y.1 ++ _)[0]? = _
            rw [List.getElem?_append_left (by omega), List.getElem?_eq_getElem])
          cases ha
      subst this
      have hx : xs = [] := by rw [← h2]; rfl
      subst hx
      exact ⟨none, 0, [], rfl, ⟨rfl, .inl ⟨rfl, rfl⟩⟩, rfl, (fun _ h => (by cases h)), New.refl _⟩
  · have n1 := New.alloc w (.cells #[] 5)
    have hcl : (cellsOf ts).length = xs.length * 1 := by
      rw [hl]
      have := rows_len (sz := 1) (ts.map (·.1)) (row_cells u8Ok h6.mem)
      rw [List.length_map] at this
      exact this
    refine append_ ok rfl rfl rfl rfl (own_lit w [] 5 1 0 w.heap.size (Nat.le_refl _) rfl (by omega)) rfl rfl (h6.row.new n1) hcl ?_ (by decide) rfl (by show (0 + xs.length) * 1 ≤ _; omega) (by omega) (by simp) ?_
    · intro u hu
      obtain ⟨cs, hcs, huc⟩ := List.mem_flatten.1 hu
      obtain ⟨y, hy, rfl⟩ := List.mem_map.1 hcs
      exact u8Ok.one (h6.mem y hy) u huc
    intro A' c' w' hown hmod
    have e0 : (.slice A' (0 + xs.length) c' : Value) = .slice A' xs.length c' := by rw [Nat.zero_add]
    rw [Nat.zero_add] at hown
    refine ⟨A', c', ts, congrArg Ending.returned e0, hown, h2, h6.mem, Mod.trans n1 hmod fun i hi h => by
        simp only [Value.ownBlock, Option.some.injEq] at h
        omega⟩
theorem CloneHnd_ok (v : Value) (xs : List Hnd) (S : Nat → Prop) (w : World) (h : LRep hndR w S v xs) (hm : xs.length ≤ 5000) :
    Calls Tryd.prog 27 #[v] w fun e w' => ∃ A' c' ts, e = .returned (.slice A' xs.length c') ∧ w'.ownsRow w.heap.size 46 4 (.slice A' xs.length c') xs.length (cellsOf ts) ∧ ts.map (·.2) = xs ∧ (∀ y ∈ ts, hndR w S y.1 y.2) ∧ New w w' := by
  obtain ⟨A, c, ts, rfl, h2, h3, h4, h5, h6⟩ := h
  refine enter ok Tryd.func27 rfl rfl rfl ?_
  have hl : xs.length = ts.length := by rw [← h2, List.length_map]
  refine if_ (fun hn => ?_) (fun hn => ?_)
  · cases A with
    | some a => cases hn
    | none =>
      have : ts = [] := by
        cases ts with
        | nil => rfl
        | cons y r =>
          have hlen := hndOk.len (h6.mem y List.mem_cons_self)
          obtain ⟨a, ha, _⟩ := h6.row 0 (y.1[0]'(by omega)) (by
            show (y.1 ++ _)[0]? = _
            rw [List.getElem?_append_left (by omega), List.getElem?_eq_getElem])
          cases ha
      subst this
      have hx : xs = [] := by rw [← h2]; rfl
      subst hx
      exact ⟨none, 0, [], rfl, ⟨rfl, .inl ⟨rfl, rfl⟩⟩, rfl, (fun _ h => (by cases h)), New.refl _⟩
  · have n1 := New.alloc w (.cells #[] 46)
    have hcl : (cellsOf ts).length = xs.length * 4 := by
      rw [hl]
      have := rows_len (sz := 4) (ts.map (·.1)) (row_cells hndOk h6.mem)
      rw [List.length_map] at this
      exact this
    refine append_ ok rfl rfl rfl rfl (own_lit w [] 46 4 0 w.heap.size (Nat.le_refl _) rfl (by omega)) rfl rfl (h6.row.new n1) hcl ?_ (by decide) rfl (by show (0 + xs.length) * 32 ≤ _; omega) (by omega) (by simp) ?_
    · intro u hu
      obtain ⟨cs, hcs, huc⟩ := List.mem_flatten.1 hu
      obtain ⟨y, hy, rfl⟩ := List.mem_map.1 hcs
      exact hndOk.one (h6.mem y hy) u huc
    intro A' c' w' hown hmod
    have e0 : (.slice A' (0 + xs.length) c' : Value) = .slice A' xs.length c' := by rw [Nat.zero_add]
    rw [Nat.zero_add] at hown
    refine ⟨A', c', ts, congrArg Ending.returned e0, hown, h2, h6.mem, Mod.trans n1 hmod fun i hi h => by
        simp only [Value.ownBlock, Option.some.injEq] at h
        omega⟩
theorem CloneMp_ok (v : Value) (xs : List Mp) (S : Nat → Prop) (w : World) (h : LRep mpR w S v xs) (hm : xs.length ≤ 5000) :
    Calls Tryd.prog 28 #[v] w fun e w' => ∃ A' c' ts, e = .returned (.slice A' xs.length c') ∧ w'.ownsRow w.heap.size 49 3 (.slice A' xs.length c') xs.length (cellsOf ts) ∧ ts.map (·.2) = xs ∧ (∀ y ∈ ts, mpR w S y.1 y.2) ∧ New w w' := by
  obtain ⟨A, c, ts, rfl, h2, h3, h4, h5, h6⟩ := h
  refine enter ok Tryd.func28 rfl rfl rfl ?_
  have hl : xs.length = ts.length := by rw [← h2, List.length_map]
  refine if_ (fun hn => ?_) (fun hn => ?_)
  · cases A with
    | some a => cases hn
    | none =>
      have : ts = [] := by
        cases ts with
        | nil => rfl
        | cons y r =>
          have hlen := mpOk.len (h6.mem y List.mem_cons_self)
          obtain ⟨a, ha, _⟩ := h6.row 0 (y.1[0]'(by omega)) (by
            show (y.1 ++ _)[0]? = _
            rw [List.getElem?_append_left (by omega), List.getElem?_eq_getElem])
          cases ha
      subst this
      have hx : xs = [] := by rw [← h2]; rfl
      subst hx
      exact ⟨none, 0, [], rfl, ⟨rfl, .inl ⟨rfl, rfl⟩⟩, rfl, (fun _ h => (by cases h)), New.refl _⟩
  · have n1 := New.alloc w (.cells #[] 49)
    have hcl : (cellsOf ts).length = xs.length * 3 := by
      rw [hl]
      have := rows_len (sz := 3) (ts.map (·.1)) (row_cells mpOk h6.mem)
      rw [List.length_map] at this
      exact this
    refine append_ ok rfl rfl rfl rfl (own_lit w [] 49 3 0 w.heap.size (Nat.le_refl _) rfl (by omega)) rfl rfl (h6.row.new n1) hcl ?_ (by decide) rfl (by show (0 + xs.length) * 56 ≤ _; omega) (by omega) (by simp) ?_
    · intro u hu
      obtain ⟨cs, hcs, huc⟩ := List.mem_flatten.1 hu
      obtain ⟨y, hy, rfl⟩ := List.mem_map.1 hcs
      exact mpOk.one (h6.mem y hy) u huc
    intro A' c' w' hown hmod
    have e0 : (.slice A' (0 + xs.length) c' : Value) = .slice A' xs.length c' := by rw [Nat.zero_add]
    rw [Nat.zero_add] at hown
    refine ⟨A', c', ts, congrArg Ending.returned e0, hown, h2, h6.mem, Mod.trans n1 hmod fun i hi h => by
        simp only [Value.ownBlock, Option.some.injEq] at h
        omega⟩
theorem CloneTy_ok (v : Value) (xs : List Ty) (S : Nat → Prop) (w : World) (h : LRep tyR w S v xs) (hm : xs.length ≤ 5000) :
    Calls Tryd.prog 29 #[v] w fun e w' => ∃ A' c' ts, e = .returned (.slice A' xs.length c') ∧ w'.ownsRow w.heap.size 51 2 (.slice A' xs.length c') xs.length (cellsOf ts) ∧ ts.map (·.2) = xs ∧ (∀ y ∈ ts, tyR w S y.1 y.2) ∧ New w w' := by
  obtain ⟨A, c, ts, rfl, h2, h3, h4, h5, h6⟩ := h
  refine enter ok Tryd.func29 rfl rfl rfl ?_
  have hl : xs.length = ts.length := by rw [← h2, List.length_map]
  refine if_ (fun hn => ?_) (fun hn => ?_)
  · cases A with
    | some a => cases hn
    | none =>
      have : ts = [] := by
        cases ts with
        | nil => rfl
        | cons y r =>
          have hlen := tyOk.len (h6.mem y List.mem_cons_self)
          obtain ⟨a, ha, _⟩ := h6.row 0 (y.1[0]'(by omega)) (by
            show (y.1 ++ _)[0]? = _
            rw [List.getElem?_append_left (by omega), List.getElem?_eq_getElem])
          cases ha
      subst this
      have hx : xs = [] := by rw [← h2]; rfl
      subst hx
      exact ⟨none, 0, [], rfl, ⟨rfl, .inl ⟨rfl, rfl⟩⟩, rfl, (fun _ h => (by cases h)), New.refl _⟩
  · have n1 := New.alloc w (.cells #[] 51)
    have hcl : (cellsOf ts).length = xs.length * 2 := by
      rw [hl]
      have := rows_len (sz := 2) (ts.map (·.1)) (row_cells tyOk h6.mem)
      rw [List.length_map] at this
      exact this
    refine append_ ok rfl rfl rfl rfl (own_lit w [] 51 2 0 w.heap.size (Nat.le_refl _) rfl (by omega)) rfl rfl (h6.row.new n1) hcl ?_ (by decide) rfl (by show (0 + xs.length) * 24 ≤ _; omega) (by omega) (by simp) ?_
    · intro u hu
      obtain ⟨cs, hcs, huc⟩ := List.mem_flatten.1 hu
      obtain ⟨y, hy, rfl⟩ := List.mem_map.1 hcs
      exact tyOk.one (h6.mem y hy) u huc
    intro A' c' w' hown hmod
    have e0 : (.slice A' (0 + xs.length) c' : Value) = .slice A' xs.length c' := by rw [Nat.zero_add]
    rw [Nat.zero_add] at hown
    refine ⟨A', c', ts, congrArg Ending.returned e0, hown, h2, h6.mem, Mod.trans n1 hmod fun i hi h => by
        simp only [Value.ownBlock, Option.some.injEq] at h
        omega⟩

end Go.Proofs.YtdcaafldnbcdkaaDoor.Class

/-! ### KCopy -/
namespace Go.Proofs.YtdcaafldnbcdkaaDoor.Class
open Go Go.Proofs.YtdcaafldnbcdkaaDoor Go.Proofs.YtdcaafldnbcdkaaDoor.Eng Go.Proofs Go.Proofs.YtdcaafldnbcdkaaDoor.Word Go.Proofs.YtdcaafldnbcdkaaDoor.Fmt
open Go.Proofs.YtdcaafldnbcdkaaDoor.Pool (Ent at_ poolF strV entC entV EntOk Pl OkPool both own_low tagAt)
set_option maxRecDepth 10000

theorem adr3 (g i sz p q : Nat) : (((⟨g, 0, none⟩ : Addr).add ((i : Int).toNat * sz)).add p).add q = ⟨g, i * sz + (p + q), none⟩ := by
  rw [Int.toNat_natCast, add_lit0, add_lit0, add_lit0, Nat.zero_add, Nat.add_assoc]
theorem adr2 (g i sz p : Nat) : ((⟨g, 0, none⟩ : Addr).add ((i : Int).toNat * sz)).add p = ⟨g, i * sz + p, none⟩ := by
  rw [Int.toNat_natCast, add_lit0, add_lit0, Nat.zero_add]
theorem adr1 (g i sz : Nat) : (⟨g, 0, none⟩ : Addr).add ((i : Int).toNat * sz) = ⟨g, i * sz, none⟩ := by
  rw [Int.toNat_natCast, add_lit0, Nat.zero_add]
section
variable {w : World} {g j : Nat} {arr : Array Value} {t : TypeId} {a : Addr} {v : Value} {K : World → Prop}
theorem cellA (ha : a = ⟨g, j, none⟩) (hb : w.heap[g]? = some (.cells arr t (0, 0))) (h : arr[j]? = some v) : w.cell? a = some v := by
  subst ha
  exact cellB0 hb h
theorem fzA (ha : a = ⟨g, j, none⟩) (hb : w.heap[g]? = some (.cells arr t (0, 0))) : w.frozen? a = false := by
  subst ha
  exact frozen_of_row _ _ _ _ _ hb
theorem exA (ha : a = ⟨g, j, none⟩) (hb : w.heap[g]? = some (.cells arr t (0, 0))) (hj : j < arr.size) : ∃ u, w.cell? a = some u := ⟨arr[j], cellA ha hb (by rw [Array.getElem?_eq_getElem])⟩
theorem stA (ha : a = ⟨g, j, none⟩) (hb : w.heap[g]? = some (.cells arr t (0, 0))) (hj : j < arr.size)
    (k : ∀ w', w'.heap[g]? = some (.cells (arr.setIfInBounds j v) t (0, 0)) → Mod (fun b => b = g) w w' → w'.heap.size = w.heap.size → K w') : K (w.setCell a v) := by
  subst ha
  have e : (⟨g, j, none⟩ : Addr) = (⟨g, 0, none⟩ : Addr).add j := by rw [add_lit0, Nat.zero_add]
  rw [e]
  exact stK hb hj k
end
/-- Classes of which copies are made. -/
def Small (x : Cls) : Prop := x.pool.length ≤ 5000 ∧ x.fields.length ≤ 5000 ∧ x.methods.length ≤ 5000 ∧ ∀ y ∈ x.methods, y.code.bytes.length ≤ 5000 ∧ y.code.hands.length ≤ 5000 ∧ y.code.maps.length ≤ 5000 ∧ ∀ p ∈ y.code.maps, p.locals.length ≤ 5000 ∧ p.stack.length ≤ 5000
theorem get_set {α : Type} {l : List α} {i : Nat} {y z : α} (h : l[i]? = some y) : (l.set i z)[i]? = some z := by
  have hi := (List.getElem?_eq_some_iff.1 h).1
  rw [List.getElem?_set, if_pos rfl, if_pos hi]
theorem map_set {α : Type} {ts : List (List Value × α)} {i : Nat} {cs : List Value} {y : List Value × α} (h : ts[i]? = some y) : (ts.set i (cs, y.2)).map (·.2) = ts.map (·.2) := by
  have hi := (List.getElem?_eq_some_iff.1 h).1
  have hy := (List.getElem?_eq_some_iff.1 h).2
  rw [List.map_set]
  refine List.ext_getElem? fun j => ?_
  rw [List.getElem?_set]
  split
  · rename_i e
    subst e
    rw [List.length_map, if_pos hi, List.getElem?_map, h]
    rfl
  · rfl
theorem ne_set {α : Type} {l : List α} {i j : Nat} {z : α} (h : j ≠ i) : (l.set i z)[j]? = l[j]? := by
  rw [List.getElem?_set, if_neg (fun e => h e.symm)]
theorem one_cls5 (A1 A2 A3 : Option Addr) (n1 c1 n2 c2 n3 c3 : Nat) (z1 z2 : List UInt8) : ∀ u ∈ [Value.slice A1 n1 c1, strV z1, strV z2, Value.slice A2 n2 c2, Value.slice A3 n3 c3], u.oneCell' = true := fun u hu => by
  simp only [List.mem_cons, List.not_mem_nil, or_false] at hu
  rcases hu with rfl | rfl | rfl | rfl | rfl <;> rfl
theorem Copy_ok (cs0 : List Value) (x : Cls) (S : Nat → Prop) (w : World) (hx : clsR w S cs0 x) (hs : Small x) :
    Calls Tryd.prog 11 #[.agg cs0.toArray] w fun e w' => ∃ cs, e = .returned (.agg (List.toArray cs)) ∧ clsO w' (fun b => b < w.heap.size) cs x ∧ New w w' := by
  replace hx := clsOk.weak (S' := (fun b => w.heap.size ≤ b)) hx fun b hb e => by have e : w.heap.size ≤ b := e; omega
  obtain ⟨_, _, _, rfl, lp, lf, lm⟩ := hx
  obtain ⟨A, a, rfl, _⟩ := lp.get entOk (by decide)
  obtain ⟨F, f, rfl, _⟩ := lf.get fldOk (by decide)
  obtain ⟨M, m, rfl, _⟩ := lm.get mthOk (by decide)
  refine enter ok Tryd.func11 rfl rfl rfl ?_
  refine seq_cut (σ := Nat × Nat) (fun t => [(1, .pointer (some ⟨t.1, 0, none⟩)), (2, .pointer (some ⟨t.2, 0, none⟩))]) (fun t w' => New w w' ∧ w'.heap.size = w.heap.size + 2 ∧ w'.heap[t.1]? = some (.cells #[.slice A x.pool.length a, strV x.name, strV x.super, .slice F x.fields.length f, .slice M x.methods.length m] 26 (0, 0)) ∧ w'.heap[t.2]? = some (.cells #[.slice none 0 0, .string ⟨#[]⟩, .string ⟨#[]⟩, .slice none 0 0, .slice none 0 0] 26 (0, 0)) ∧ t.1 = w.heap.size ∧ t.2 = w.heap.size + 1) ?_ ?_
  rotate_left
  · intro K hK
    have k1 := New.alloc w (.cells #[.slice A x.pool.length a, strV x.name, strV x.super, .slice F x.fields.length f, .slice M x.methods.length m] 26)
    have z1 : (w.alloc (.cells #[.slice A x.pool.length a, strV x.name, strV x.super, .slice F x.fields.length f, .slice M x.methods.length m] 26)).heap.size = w.heap.size + 1 := by simp
    have k2 := New.alloc (w.alloc (.cells #[.slice A x.pool.length a, strV x.name, strV x.super, .slice F x.fields.length f, .slice M x.methods.length m] 26)) (.cells #[.slice none 0 0, .string ⟨#[]⟩, .string ⟨#[]⟩, .slice none 0 0, .slice none 0 0] 26)
    exact hK (w.heap.size, (w.alloc (.cells #[.slice A x.pool.length a, strV x.name, strV x.super, .slice F x.fields.length f, .slice M x.methods.length m] 26)).heap.size) _ _ ⟨rfl, rfl, trivial⟩ ⟨k1.trans k2, by simp, k2.blk (heap_alloc_new w (.cells #[.slice A x.pool.length a, strV x.name, strV x.super, .slice F x.fields.length f, .slice M x.methods.length m] 26)), heap_alloc_new (w.alloc (.cells #[.slice A x.pool.length a, strV x.name, strV x.super, .slice F x.fields.length f, .slice M x.methods.length m] 26)) (.cells #[.slice none 0 0, .string ⟨#[]⟩, .string ⟨#[]⟩, .slice none 0 0, .slice none 0 0] 26), rfl, z1⟩
  rintro ⟨X, V⟩ w0 fr0 ⟨n0, hz0, hX0', hV0', hXe, hVe⟩
  dsimp only at hX0' hV0' hXe hVe
  have fin : ∀ {z0 z1 z2 z3 y3 : World} {A1 : Option Addr} {a1 : Nat} {ts1 : List (List Value × Ent)} {A2 : Option Addr} {a2 : Nat} {ts2 : List (List Value × Fld)} {A3 : Option Addr} {a3 : Nat} {ts3 : List (List Value × Mth)} , New w z0 → w.heap.size + 2 ≤ z0.heap.size → z1.ownsRow z0.heap.size 42 5 (.slice A1 x.pool.length a1) x.pool.length (cellsOf ts1) → ts1.map (·.2) = x.pool → (∀ y ∈ ts1, entR z0 (fun b => w.heap.size ≤ b) y.1 y.2) → New z0 z1 → z2.ownsRow z1.heap.size 44 3 (.slice A2 x.fields.length a2) x.fields.length (cellsOf ts2) → ts2.map (·.2) = x.fields → (∀ y ∈ ts2, fldR z1 (fun b => w.heap.size ≤ b) y.1 y.2) → New z1 z2 → z3.ownsRow z2.heap.size 36 8 (.slice A3 x.methods.length a3) x.methods.length (cellsOf ts3) → ts3.map (·.2) = x.methods → (∀ y ∈ ts3, mthR z2 (fun b => w.heap.size ≤ b) y.1 y.2) → New z2 z3 → Mod (fun b => b = X) z3 y3 → y3.heap[X]? = some (.cells #[.slice A1 x.pool.length a1, strV x.name, strV x.super, .slice A2 x.fields.length a2, .slice A3 x.methods.length a3] 26 (0, 0)) → z3.heap[V]? = some (.cells #[.slice none 0 0, .string ⟨#[]⟩, .string ⟨#[]⟩, .slice none 0 0, .slice none 0 0] 26 (0, 0)) → New w y3 ∧ y3.heap[X]? = some (.cells #[.slice A1 x.pool.length a1, strV x.name, strV x.super, .slice A2 x.fields.length a2, .slice A3 x.methods.length a3] 26 (0, 0)) ∧ y3.heap[V]? = some (.cells #[.slice none 0 0, .string ⟨#[]⟩, .string ⟨#[]⟩, .slice none 0 0, .slice none 0 0] 26 (0, 0)) ∧ ∃ q ts, w.heap.size + 2 ≤ q ∧ LO 42 5 entR y3 (fun b => b < w.heap.size + 2 ∨ q ≤ b) (.slice A1 x.pool.length a1) x.pool ∧ LO 44 3 fldR y3 (fun b => b < w.heap.size + 2 ∨ q ≤ b) (.slice A2 x.fields.length a2) x.fields ∧ y3.ownsRow q 36 8 (.slice A3 x.methods.length a3) x.methods.length (cellsOf ts) ∧ ts.map (·.2) = x.methods ∧ ∀ y ∈ ts, mthR y3 (fun b => w.heap.size ≤ b) y.1 y.2 := by
    intro z0 z1 z2 z3 y3 A1 a1 ts1 A2 a2 ts2 A3 a3 ts3 n hz o1 e1 hm1 k1 o2 e2 hm2 k2 o3 e3 hm3 k3 ym hY hV3
    have sz1 := k1.size
    have sz2 := k2.size
    have sz3 := k3.size
    have hlo : ∀ b, b < w.heap.size + 2 → b < z0.heap.size := fun b h => by omega
    have nn : New w z3 := (n.trans k1).trans (k2.trans k3)
    refine ⟨nn.st ym (by omega), hY, ym.blk hV3 (by omega), z2.heap.size, ts3, by omega, ?_, ?_, ?_, e3, fun y hy => ?_⟩
    · have l := lo_own (S := fun b => b < w.heap.size + 2 ∨ z2.heap.size ≤ b) entOk o1 e1 (by have := hs.1; omega) (fun b hb _ e => by omega) (fun y hy => hm1 y hy)
      exact l.mod entOk (by decide) (Mod.trans (k2.trans k3).mod ym fun b _ e => .inl (by omega))
    · have l := lo_own (S := fun b => b < w.heap.size + 2 ∨ z2.heap.size ≤ b) fldOk o2 e2 (by have := hs.2.1; omega) (fun b hb _ e => by omega) (fun y hy => hm2 y hy)
      exact l.mod fldOk (by decide) (Mod.trans k3.mod ym fun b _ e => .inl (by omega))
    · have o3' := own_mod ym o3 (fun b hb e => by have := (o3.lt b hb).1; omega)
      exact o3'
    · exact mthOk.mod (mthOk.mod (hm3 y hy) (k3.mod.mono (fun _ _ e => False.elim e))) (ym.mono fun b _ e => (show w.heap.size ≤ b by omega))
  refine seq_cut (σ := (Option Addr × Nat) × (Option Addr × Nat) × (Option Addr × Nat)) (fun _ => [(1, .pointer (some ⟨X, 0, none⟩)), (2, .pointer (some ⟨V, 0, none⟩))]) (fun t w' => New w w' ∧ w'.heap[X]? = some (.cells #[.slice t.1.1 x.pool.length t.1.2, strV x.name, strV x.super, .slice t.2.1.1 x.fields.length t.2.1.2, .slice t.2.2.1 x.methods.length t.2.2.2] 26 (0, 0)) ∧ w'.heap[V]? = some (.cells #[.slice none 0 0, .string ⟨#[]⟩, .string ⟨#[]⟩, .slice none 0 0, .slice none 0 0] 26 (0, 0)) ∧ ∃ q ts, w.heap.size + 2 ≤ q ∧ LO 42 5 entR w' (fun b => b < w.heap.size + 2 ∨ q ≤ b) (.slice t.1.1 x.pool.length t.1.2) x.pool ∧ LO 44 3 fldR w' (fun b => b < w.heap.size + 2 ∨ q ≤ b) (.slice t.2.1.1 x.fields.length t.2.1.2) x.fields ∧ w'.ownsRow q 36 8 (.slice t.2.2.1 x.methods.length t.2.2.2) x.methods.length (cellsOf ts) ∧ ts.map (·.2) = x.methods ∧ ∀ y ∈ ts, mthR w' (fun b => w.heap.size ≤ b) y.1 y.2) ?_ ?_
  rotate_left
  · intro K hK
    have n0d := n0.trans (New.drew w0)
    have hz0d : w.heap.size + 2 ≤ w0.drew.heap.size := by rw [← hz0]; exact Nat.le_refl _
    have hX0 := (New.drew w0).blk hX0'
    have hV0 := (New.drew w0).blk hV0'
    have mo0 : Mod (fun b => w.heap.size ≤ b) w w0.drew := n0d.mod
    refine draw_ (w := w0) ok (.q 0 (.q 3 (.q 6 (.br (.br (.e 1 (.br (.br (.e 2 (.br (.e 4 (.br (.e 5 (.e 7 (.q 9 (.e 8 (.e 10 (.q 11 (.e 12 (.q 13 (.e 14 .done))))))))) (.e 7 (.q 9 (.e 5 (.e 8 (.e 10 (.q 11 (.e 12 (.q 13 (.e 14 .done))))))))))) (.e 7 (.e 4 (.q 9 (.e 5 (.e 8 (.e 10 (.q 11 (.e 12 (.q 13 (.e 14 .done)))))))))))) (.e 4 (.br (.e 2 (.br (.e 5 (.e 7 (.q 9 (.e 8 (.e 10 (.q 11 (.e 12 (.q 13 (.e 14 .done))))))))) (.e 7 (.q 9 (.e 5 (.e 8 (.e 10 (.q 11 (.e 12 (.q 13 (.e 14 .done))))))))))) (.e 7 (.e 2 (.q 9 (.e 5 (.e 8 (.e 10 (.q 11 (.e 12 (.q 13 (.e 14 .done))))))))))))) (.e 7 (.br (.e 2 (.e 4 (.q 9 (.e 5 (.e 8 (.e 10 (.q 11 (.e 12 (.q 13 (.e 14 .done)))))))))) (.e 4 (.e 2 (.q 9 (.e 5 (.e 8 (.e 10 (.q 11 (.e 12 (.q 13 (.e 14 .done)))))))))))))) (.e 4 (.br (.e 1 (.br (.e 2 (.br (.e 5 (.e 7 (.q 9 (.e 8 (.e 10 (.q 11 (.e 12 (.q 13 (.e 14 .done))))))))) (.e 7 (.q 9 (.e 5 (.e 8 (.e 10 (.q 11 (.e 12 (.q 13 (.e 14 .done))))))))))) (.e 7 (.e 2 (.q 9 (.e 5 (.e 8 (.e 10 (.q 11 (.e 12 (.q 13 (.e 14 .done)))))))))))) (.e 7 (.e 1 (.e 2 (.q 9 (.e 5 (.e 8 (.e 10 (.q 11 (.e 12 (.q 13 (.e 14 .done)))))))))))))) (.e 7 (.br (.e 1 (.br (.e 2 (.e 4 (.q 9 (.e 5 (.e 8 (.e 10 (.q 11 (.e 12 (.q 13 (.e 14 .done)))))))))) (.e 4 (.e 2 (.q 9 (.e 5 (.e 8 (.e 10 (.q 11 (.e 12 (.q 13 (.e 14 .done)))))))))))) (.e 4 (.e 1 (.e 2 (.q 9 (.e 5 (.e 8 (.e 10 (.q 11 (.e 12 (.q 13 (.e 14 .done))))))))))))))))) [14] (fun _ => True) (by kernel_rfl) (by kernel_rfl) (by kernel_rfl) (by kernel_rfl) (by kernel_rfl) trivial ?_
    refine And.intro (And.intro ?_ ?_) ?_
    · refine Exists.intro A (Exists.intro x.pool.length (Exists.intro a (And.intro (cellB hX0 rfl) ?_)))
      refine Exists.intro (fun _ => True) (And.intro (fun _ h => h) (And.intro trivial ?_))
      refine And.intro (And.intro ?_ ?_) ?_
      · refine call_ (CloneEnt_ok _ x.pool (fun b => w.heap.size ≤ b) w0.drew (LRep.mod entOk (by decide) lp mo0) hs.1) ?_
        rintro e z1 ⟨A1, a1, ts1, rfl, o1, e1, hm1, k1⟩
        refine ⟨_, rfl, ?_⟩
        have mo1 := both mo0 k1.mod
        have hX1 := k1.blk hX0
        have hV1 := k1.blk hV0
        refine Exists.intro (fun _ => True) (And.intro (fun _ h => h) (And.intro trivial ?_))
        refine And.intro ?_ ?_
        · refine Exists.intro F (Exists.intro x.fields.length (Exists.intro f (And.intro (cellB hX1 rfl) ?_)))
          refine Exists.intro (fun _ => True) (And.intro (fun _ h => h) (And.intro trivial ?_))
          refine And.intro ?_ ?_
          · refine call_ (CloneFld_ok _ x.fields (fun b => w.heap.size ≤ b) z1 (LRep.mod fldOk (by decide) lf mo1) hs.2.1) ?_
            rintro e z2 ⟨A2, a2, ts2, rfl, o2, e2, hm2, k2⟩
            refine ⟨_, rfl, ?_⟩
            have mo2 := both mo1 k2.mod
            have hX2 := k2.blk hX1
            have hV2 := k2.blk hV1
            refine Exists.intro (fun _ => True) (And.intro (fun _ h => h) (And.intro trivial ?_))
            refine Exists.intro M (Exists.intro x.methods.length (Exists.intro m (And.intro (cellB hX2 rfl) ?_)))
            refine Exists.intro (fun _ => True) (And.intro (fun _ h => h) (And.intro trivial ?_))
            refine call_ (CloneMth_ok _ x.methods (fun b => w.heap.size ≤ b) z2 (LRep.mod mthOk (by decide) lm mo2) hs.2.2.1) ?_
            rintro e z3 ⟨A3, a3, ts3, rfl, o3, e3, hm3, k3⟩
            refine ⟨_, rfl, ?_⟩
            have mo3 := both mo2 k3.mod
            have hX3 := k3.blk hX2
            have hV3 := k3.blk hV2
            refine Exists.intro (fun _ => True) (And.intro (fun _ h => h) (And.intro trivial ?_))
            refine And.intro ⟨_, cellB hX3 rfl⟩ (And.intro (fzB hX3 _) (force_ ?_))
            refine stK hX3 (show (0 : Nat) < 5 by decide) ?_
            intro y1 hY1 y1m y1s
            refine Exists.intro (fun _ => True) (And.intro (fun _ h => h) (And.intro trivial ?_))
            refine And.intro ⟨_, cellB hY1 rfl⟩ (And.intro (fzB hY1 _) (force_ ?_))
            refine stK hY1 (show (3 : Nat) < 5 by decide) ?_
            intro y2 hY2 y2m y2s
            refine Exists.intro (fun _ => True) (And.intro (fun _ h => h) (And.intro trivial ?_))
            refine And.intro ⟨_, cellB hY2 rfl⟩ (And.intro (fzB hY2 _) (force_ ?_))
            refine stK hY2 (show (4 : Nat) < 5 by decide) ?_
            intro y3 hY3 y3m y3s
            exact hK ((A1, a1), (A2, a2), (A3, a3)) _ _ ⟨rfl, rfl, trivial⟩ (fin n0d hz0d o1 e1 hm1 k1 o2 e2 hm2 k2 o3 e3 hm3 k3 (both (both y1m y2m) y3m) hY3 hV3)
          · refine Exists.intro M (Exists.intro x.methods.length (Exists.intro m (And.intro (cellB hX1 rfl) ?_)))
            refine Exists.intro (fun _ => True) (And.intro (fun _ h => h) (And.intro trivial ?_))
            refine call_ (CloneFld_ok _ x.fields (fun b => w.heap.size ≤ b) z1 (LRep.mod fldOk (by decide) lf mo1) hs.2.1) ?_
            rintro e z2 ⟨A2, a2, ts2, rfl, o2, e2, hm2, k2⟩
            refine ⟨_, rfl, ?_⟩
            have mo2 := both mo1 k2.mod
            have hX2 := k2.blk hX1
            have hV2 := k2.blk hV1
            refine Exists.intro (fun _ => True) (And.intro (fun _ h => h) (And.intro trivial ?_))
            refine call_ (CloneMth_ok _ x.methods (fun b => w.heap.size ≤ b) z2 (LRep.mod mthOk (by decide) lm mo2) hs.2.2.1) ?_
            rintro e z3 ⟨A3, a3, ts3, rfl, o3, e3, hm3, k3⟩
            refine ⟨_, rfl, ?_⟩
            have mo3 := both mo2 k3.mod
            have hX3 := k3.blk hX2
            have hV3 := k3.blk hV2
            refine Exists.intro (fun _ => True) (And.intro (fun _ h => h) (And.intro trivial ?_))
            refine And.intro ⟨_, cellB hX3 rfl⟩ (And.intro (fzB hX3 _) (force_ ?_))
            refine stK hX3 (show (0 : Nat) < 5 by decide) ?_
            intro y1 hY1 y1m y1s
            refine Exists.intro (fun _ => True) (And.intro (fun _ h => h) (And.intro trivial ?_))
            refine And.intro ⟨_, cellB hY1 rfl⟩ (And.intro (fzB hY1 _) (force_ ?_))
            refine stK hY1 (show (3 : Nat) < 5 by decide) ?_
            intro y2 hY2 y2m y2s
            refine Exists.intro (fun _ => True) (And.intro (fun _ h => h) (And.intro trivial ?_))
            refine And.intro ⟨_, cellB hY2 rfl⟩ (And.intro (fzB hY2 _) (force_ ?_))
            refine stK hY2 (show (4 : Nat) < 5 by decide) ?_
            intro y3 hY3 y3m y3s
            exact hK ((A1, a1), (A2, a2), (A3, a3)) _ _ ⟨rfl, rfl, trivial⟩ (fin n0d hz0d o1 e1 hm1 k1 o2 e2 hm2 k2 o3 e3 hm3 k3 (both (both y1m y2m) y3m) hY3 hV3)
        · refine Exists.intro M (Exists.intro x.methods.length (Exists.intro m (And.intro (cellB hX1 rfl) ?_)))
          refine Exists.intro (fun _ => True) (And.intro (fun _ h => h) (And.intro trivial ?_))
          refine Exists.intro F (Exists.intro x.fields.length (Exists.intro f (And.intro (cellB hX1 rfl) ?_)))
          refine Exists.intro (fun _ => True) (And.intro (fun _ h => h) (And.intro trivial ?_))
          refine call_ (CloneFld_ok _ x.fields (fun b => w.heap.size ≤ b) z1 (LRep.mod fldOk (by decide) lf mo1) hs.2.1) ?_
          rintro e z2 ⟨A2, a2, ts2, rfl, o2, e2, hm2, k2⟩
          refine ⟨_, rfl, ?_⟩
          have mo2 := both mo1 k2.mod
          have hX2 := k2.blk hX1
          have hV2 := k2.blk hV1
          refine Exists.intro (fun _ => True) (And.intro (fun _ h => h) (And.intro trivial ?_))
          refine call_ (CloneMth_ok _ x.methods (fun b => w.heap.size ≤ b) z2 (LRep.mod mthOk (by decide) lm mo2) hs.2.2.1) ?_
          rintro e z3 ⟨A3, a3, ts3, rfl, o3, e3, hm3, k3⟩
          refine ⟨_, rfl, ?_⟩
          have mo3 := both mo2 k3.mod
          have hX3 := k3.blk hX2
          have hV3 := k3.blk hV2
          refine Exists.intro (fun _ => True) (And.intro (fun _ h => h) (And.intro trivial ?_))
          refine And.intro ⟨_, cellB hX3 rfl⟩ (And.intro (fzB hX3 _) (force_ ?_))
          refine stK hX3 (show (0 : Nat) < 5 by decide) ?_
          intro y1 hY1 y1m y1s
          refine Exists.intro (fun _ => True) (And.intro (fun _ h => h) (And.intro trivial ?_))
          refine And.intro ⟨_, cellB hY1 rfl⟩ (And.intro (fzB hY1 _) (force_ ?_))
          refine stK hY1 (show (3 : Nat) < 5 by decide) ?_
          intro y2 hY2 y2m y2s
          refine Exists.intro (fun _ => True) (And.intro (fun _ h => h) (And.intro trivial ?_))
          refine And.intro ⟨_, cellB hY2 rfl⟩ (And.intro (fzB hY2 _) (force_ ?_))
          refine stK hY2 (show (4 : Nat) < 5 by decide) ?_
          intro y3 hY3 y3m y3s
          exact hK ((A1, a1), (A2, a2), (A3, a3)) _ _ ⟨rfl, rfl, trivial⟩ (fin n0d hz0d o1 e1 hm1 k1 o2 e2 hm2 k2 o3 e3 hm3 k3 (both (both y1m y2m) y3m) hY3 hV3)
      · refine Exists.intro F (Exists.intro x.fields.length (Exists.intro f (And.intro (cellB hX0 rfl) ?_)))
        refine Exists.intro (fun _ => True) (And.intro (fun _ h => h) (And.intro trivial ?_))
        refine And.intro ?_ ?_
        · refine call_ (CloneEnt_ok _ x.pool (fun b => w.heap.size ≤ b) w0.drew (LRep.mod entOk (by decide) lp mo0) hs.1) ?_
          rintro e z1 ⟨A1, a1, ts1, rfl, o1, e1, hm1, k1⟩
          refine ⟨_, rfl, ?_⟩
          have mo1 := both mo0 k1.mod
          have hX1 := k1.blk hX0
          have hV1 := k1.blk hV0
          refine Exists.intro (fun _ => True) (And.intro (fun _ h => h) (And.intro trivial ?_))
          refine And.intro ?_ ?_
          · refine call_ (CloneFld_ok _ x.fields (fun b => w.heap.size ≤ b) z1 (LRep.mod fldOk (by decide) lf mo1) hs.2.1) ?_
            rintro e z2 ⟨A2, a2, ts2, rfl, o2, e2, hm2, k2⟩
            refine ⟨_, rfl, ?_⟩
            have mo2 := both mo1 k2.mod
            have hX2 := k2.blk hX1
            have hV2 := k2.blk hV1
            refine Exists.intro (fun _ => True) (And.intro (fun _ h => h) (And.intro trivial ?_))
            refine Exists.intro M (Exists.intro x.methods.length (Exists.intro m (And.intro (cellB hX2 rfl) ?_)))
            refine Exists.intro (fun _ => True) (And.intro (fun _ h => h) (And.intro trivial ?_))
            refine call_ (CloneMth_ok _ x.methods (fun b => w.heap.size ≤ b) z2 (LRep.mod mthOk (by decide) lm mo2) hs.2.2.1) ?_
            rintro e z3 ⟨A3, a3, ts3, rfl, o3, e3, hm3, k3⟩
            refine ⟨_, rfl, ?_⟩
            have mo3 := both mo2 k3.mod
            have hX3 := k3.blk hX2
            have hV3 := k3.blk hV2
            refine Exists.intro (fun _ => True) (And.intro (fun _ h => h) (And.intro trivial ?_))
            refine And.intro ⟨_, cellB hX3 rfl⟩ (And.intro (fzB hX3 _) (force_ ?_))
            refine stK hX3 (show (0 : Nat) < 5 by decide) ?_
            intro y1 hY1 y1m y1s
            refine Exists.intro (fun _ => True) (And.intro (fun _ h => h) (And.intro trivial ?_))
            refine And.intro ⟨_, cellB hY1 rfl⟩ (And.intro (fzB hY1 _) (force_ ?_))
            refine stK hY1 (show (3 : Nat) < 5 by decide) ?_
            intro y2 hY2 y2m y2s
            refine Exists.intro (fun _ => True) (And.intro (fun _ h => h) (And.intro trivial ?_))
            refine And.intro ⟨_, cellB hY2 rfl⟩ (And.intro (fzB hY2 _) (force_ ?_))
            refine stK hY2 (show (4 : Nat) < 5 by decide) ?_
            intro y3 hY3 y3m y3s
            exact hK ((A1, a1), (A2, a2), (A3, a3)) _ _ ⟨rfl, rfl, trivial⟩ (fin n0d hz0d o1 e1 hm1 k1 o2 e2 hm2 k2 o3 e3 hm3 k3 (both (both y1m y2m) y3m) hY3 hV3)
          · refine Exists.intro M (Exists.intro x.methods.length (Exists.intro m (And.intro (cellB hX1 rfl) ?_)))
            refine Exists.intro (fun _ => True) (And.intro (fun _ h => h) (And.intro trivial ?_))
            refine call_ (CloneFld_ok _ x.fields (fun b => w.heap.size ≤ b) z1 (LRep.mod fldOk (by decide) lf mo1) hs.2.1) ?_
            rintro e z2 ⟨A2, a2, ts2, rfl, o2, e2, hm2, k2⟩
            refine ⟨_, rfl, ?_⟩
            have mo2 := both mo1 k2.mod
            have hX2 := k2.blk hX1
            have hV2 := k2.blk hV1
            refine Exists.intro (fun _ => True) (And.intro (fun _ h => h) (And.intro trivial ?_))
            refine call_ (CloneMth_ok _ x.methods (fun b => w.heap.size ≤ b) z2 (LRep.mod mthOk (by decide) lm mo2) hs.2.2.1) ?_
            rintro e z3 ⟨A3, a3, ts3, rfl, o3, e3, hm3, k3⟩
            refine ⟨_, rfl, ?_⟩
            have mo3 := both mo2 k3.mod
            have hX3 := k3.blk hX2
            have hV3 := k3.blk hV2
            refine Exists.intro (fun _ => True) (And.intro (fun _ h => h) (And.intro trivial ?_))
            refine And.intro ⟨_, cellB hX3 rfl⟩ (And.intro (fzB hX3 _) (force_ ?_))
            refine stK hX3 (show (0 : Nat) < 5 by decide) ?_
            intro y1 hY1 y1m y1s
            refine Exists.intro (fun _ => True) (And.intro (fun _ h => h) (And.intro trivial ?_))
            refine And.intro ⟨_, cellB hY1 rfl⟩ (And.intro (fzB hY1 _) (force_ ?_))
            refine stK hY1 (show (3 : Nat) < 5 by decide) ?_
            intro y2 hY2 y2m y2s
            refine Exists.intro (fun _ => True) (And.intro (fun _ h => h) (And.intro trivial ?_))
            refine And.intro ⟨_, cellB hY2 rfl⟩ (And.intro (fzB hY2 _) (force_ ?_))
            refine stK hY2 (show (4 : Nat) < 5 by decide) ?_
            intro y3 hY3 y3m y3s
            exact hK ((A1, a1), (A2, a2), (A3, a3)) _ _ ⟨rfl, rfl, trivial⟩ (fin n0d hz0d o1 e1 hm1 k1 o2 e2 hm2 k2 o3 e3 hm3 k3 (both (both y1m y2m) y3m) hY3 hV3)
        · refine Exists.intro M (Exists.intro x.methods.length (Exists.intro m (And.intro (cellB hX0 rfl) ?_)))
          refine Exists.intro (fun _ => True) (And.intro (fun _ h => h) (And.intro trivial ?_))
          refine call_ (CloneEnt_ok _ x.pool (fun b => w.heap.size ≤ b) w0.drew (LRep.mod entOk (by decide) lp mo0) hs.1) ?_
          rintro e z1 ⟨A1, a1, ts1, rfl, o1, e1, hm1, k1⟩
          refine ⟨_, rfl, ?_⟩
          have mo1 := both mo0 k1.mod
          have hX1 := k1.blk hX0
          have hV1 := k1.blk hV0
          refine Exists.intro (fun _ => True) (And.intro (fun _ h => h) (And.intro trivial ?_))
          refine call_ (CloneFld_ok _ x.fields (fun b => w.heap.size ≤ b) z1 (LRep.mod fldOk (by decide) lf mo1) hs.2.1) ?_
          rintro e z2 ⟨A2, a2, ts2, rfl, o2, e2, hm2, k2⟩
          refine ⟨_, rfl, ?_⟩
          have mo2 := both mo1 k2.mod
          have hX2 := k2.blk hX1
          have hV2 := k2.blk hV1
          refine Exists.intro (fun _ => True) (And.intro (fun _ h => h) (And.intro trivial ?_))
          refine call_ (CloneMth_ok _ x.methods (fun b => w.heap.size ≤ b) z2 (LRep.mod mthOk (by decide) lm mo2) hs.2.2.1) ?_
          rintro e z3 ⟨A3, a3, ts3, rfl, o3, e3, hm3, k3⟩
          refine ⟨_, rfl, ?_⟩
          have mo3 := both mo2 k3.mod
          have hX3 := k3.blk hX2
          have hV3 := k3.blk hV2
          refine Exists.intro (fun _ => True) (And.intro (fun _ h => h) (And.intro trivial ?_))
          refine And.intro ⟨_, cellB hX3 rfl⟩ (And.intro (fzB hX3 _) (force_ ?_))
          refine stK hX3 (show (0 : Nat) < 5 by decide) ?_
          intro y1 hY1 y1m y1s
          refine Exists.intro (fun _ => True) (And.intro (fun _ h => h) (And.intro trivial ?_))
          refine And.intro ⟨_, cellB hY1 rfl⟩ (And.intro (fzB hY1 _) (force_ ?_))
          refine stK hY1 (show (3 : Nat) < 5 by decide) ?_
          intro y2 hY2 y2m y2s
          refine Exists.intro (fun _ => True) (And.intro (fun _ h => h) (And.intro trivial ?_))
          refine And.intro ⟨_, cellB hY2 rfl⟩ (And.intro (fzB hY2 _) (force_ ?_))
          refine stK hY2 (show (4 : Nat) < 5 by decide) ?_
          intro y3 hY3 y3m y3s
          exact hK ((A1, a1), (A2, a2), (A3, a3)) _ _ ⟨rfl, rfl, trivial⟩ (fin n0d hz0d o1 e1 hm1 k1 o2 e2 hm2 k2 o3 e3 hm3 k3 (both (both y1m y2m) y3m) hY3 hV3)
      · refine Exists.intro M (Exists.intro x.methods.length (Exists.intro m (And.intro (cellB hX0 rfl) ?_)))
        refine Exists.intro (fun _ => True) (And.intro (fun _ h => h) (And.intro trivial ?_))
        refine And.intro ?_ ?_
        · refine call_ (CloneEnt_ok _ x.pool (fun b => w.heap.size ≤ b) w0.drew (LRep.mod entOk (by decide) lp mo0) hs.1) ?_
          rintro e z1 ⟨A1, a1, ts1, rfl, o1, e1, hm1, k1⟩
          refine ⟨_, rfl, ?_⟩
          have mo1 := both mo0 k1.mod
          have hX1 := k1.blk hX0
          have hV1 := k1.blk hV0
          refine Exists.intro (fun _ => True) (And.intro (fun _ h => h) (And.intro trivial ?_))
          refine Exists.intro F (Exists.intro x.fields.length (Exists.intro f (And.intro (cellB hX1 rfl) ?_)))
          refine Exists.intro (fun _ => True) (And.intro (fun _ h => h) (And.intro trivial ?_))
          refine call_ (CloneFld_ok _ x.fields (fun b => w.heap.size ≤ b) z1 (LRep.mod fldOk (by decide) lf mo1) hs.2.1) ?_
          rintro e z2 ⟨A2, a2, ts2, rfl, o2, e2, hm2, k2⟩
          refine ⟨_, rfl, ?_⟩
          have mo2 := both mo1 k2.mod
          have hX2 := k2.blk hX1
          have hV2 := k2.blk hV1
          refine Exists.intro (fun _ => True) (And.intro (fun _ h => h) (And.intro trivial ?_))
          refine call_ (CloneMth_ok _ x.methods (fun b => w.heap.size ≤ b) z2 (LRep.mod mthOk (by decide) lm mo2) hs.2.2.1) ?_
          rintro e z3 ⟨A3, a3, ts3, rfl, o3, e3, hm3, k3⟩
          refine ⟨_, rfl, ?_⟩
          have mo3 := both mo2 k3.mod
          have hX3 := k3.blk hX2
          have hV3 := k3.blk hV2
          refine Exists.intro (fun _ => True) (And.intro (fun _ h => h) (And.intro trivial ?_))
          refine And.intro ⟨_, cellB hX3 rfl⟩ (And.intro (fzB hX3 _) (force_ ?_))
          refine stK hX3 (show (0 : Nat) < 5 by decide) ?_
          intro y1 hY1 y1m y1s
          refine Exists.intro (fun _ => True) (And.intro (fun _ h => h) (And.intro trivial ?_))
          refine And.intro ⟨_, cellB hY1 rfl⟩ (And.intro (fzB hY1 _) (force_ ?_))
          refine stK hY1 (show (3 : Nat) < 5 by decide) ?_
          intro y2 hY2 y2m y2s
          refine Exists.intro (fun _ => True) (And.intro (fun _ h => h) (And.intro trivial ?_))
          refine And.intro ⟨_, cellB hY2 rfl⟩ (And.intro (fzB hY2 _) (force_ ?_))
          refine stK hY2 (show (4 : Nat) < 5 by decide) ?_
          intro y3 hY3 y3m y3s
          exact hK ((A1, a1), (A2, a2), (A3, a3)) _ _ ⟨rfl, rfl, trivial⟩ (fin n0d hz0d o1 e1 hm1 k1 o2 e2 hm2 k2 o3 e3 hm3 k3 (both (both y1m y2m) y3m) hY3 hV3)
        · refine Exists.intro F (Exists.intro x.fields.length (Exists.intro f (And.intro (cellB hX0 rfl) ?_)))
          refine Exists.intro (fun _ => True) (And.intro (fun _ h => h) (And.intro trivial ?_))
          refine call_ (CloneEnt_ok _ x.pool (fun b => w.heap.size ≤ b) w0.drew (LRep.mod entOk (by decide) lp mo0) hs.1) ?_
          rintro e z1 ⟨A1, a1, ts1, rfl, o1, e1, hm1, k1⟩
          refine ⟨_, rfl, ?_⟩
          have mo1 := both mo0 k1.mod
          have hX1 := k1.blk hX0
          have hV1 := k1.blk hV0
          refine Exists.intro (fun _ => True) (And.intro (fun _ h => h) (And.intro trivial ?_))
          refine call_ (CloneFld_ok _ x.fields (fun b => w.heap.size ≤ b) z1 (LRep.mod fldOk (by decide) lf mo1) hs.2.1) ?_
          rintro e z2 ⟨A2, a2, ts2, rfl, o2, e2, hm2, k2⟩
          refine ⟨_, rfl, ?_⟩
          have mo2 := both mo1 k2.mod
          have hX2 := k2.blk hX1
          have hV2 := k2.blk hV1
          refine Exists.intro (fun _ => True) (And.intro (fun _ h => h) (And.intro trivial ?_))
          refine call_ (CloneMth_ok _ x.methods (fun b => w.heap.size ≤ b) z2 (LRep.mod mthOk (by decide) lm mo2) hs.2.2.1) ?_
          rintro e z3 ⟨A3, a3, ts3, rfl, o3, e3, hm3, k3⟩
          refine ⟨_, rfl, ?_⟩
          have mo3 := both mo2 k3.mod
          have hX3 := k3.blk hX2
          have hV3 := k3.blk hV2
          refine Exists.intro (fun _ => True) (And.intro (fun _ h => h) (And.intro trivial ?_))
          refine And.intro ⟨_, cellB hX3 rfl⟩ (And.intro (fzB hX3 _) (force_ ?_))
          refine stK hX3 (show (0 : Nat) < 5 by decide) ?_
          intro y1 hY1 y1m y1s
          refine Exists.intro (fun _ => True) (And.intro (fun _ h => h) (And.intro trivial ?_))
          refine And.intro ⟨_, cellB hY1 rfl⟩ (And.intro (fzB hY1 _) (force_ ?_))
          refine stK hY1 (show (3 : Nat) < 5 by decide) ?_
          intro y2 hY2 y2m y2s
          refine Exists.intro (fun _ => True) (And.intro (fun _ h => h) (And.intro trivial ?_))
          refine And.intro ⟨_, cellB hY2 rfl⟩ (And.intro (fzB hY2 _) (force_ ?_))
          refine stK hY2 (show (4 : Nat) < 5 by decide) ?_
          intro y3 hY3 y3m y3s
          exact hK ((A1, a1), (A2, a2), (A3, a3)) _ _ ⟨rfl, rfl, trivial⟩ (fin n0d hz0d o1 e1 hm1 k1 o2 e2 hm2 k2 o3 e3 hm3 k3 (both (both y1m y2m) y3m) hY3 hV3)
    · refine Exists.intro F (Exists.intro x.fields.length (Exists.intro f (And.intro (cellB hX0 rfl) ?_)))
      refine Exists.intro (fun _ => True) (And.intro (fun _ h => h) (And.intro trivial ?_))
      refine And.intro ?_ ?_
      · refine Exists.intro A (Exists.intro x.pool.length (Exists.intro a (And.intro (cellB hX0 rfl) ?_)))
        refine Exists.intro (fun _ => True) (And.intro (fun _ h => h) (And.intro trivial ?_))
        refine And.intro ?_ ?_
        · refine call_ (CloneEnt_ok _ x.pool (fun b => w.heap.size ≤ b) w0.drew (LRep.mod entOk (by decide) lp mo0) hs.1) ?_
          rintro e z1 ⟨A1, a1, ts1, rfl, o1, e1, hm1, k1⟩
          refine ⟨_, rfl, ?_⟩
          have mo1 := both mo0 k1.mod
          have hX1 := k1.blk hX0
          have hV1 := k1.blk hV0
          refine Exists.intro (fun _ => True) (And.intro (fun _ h => h) (And.intro trivial ?_))
          refine And.intro ?_ ?_
          · refine call_ (CloneFld_ok _ x.fields (fun b => w.heap.size ≤ b) z1 (LRep.mod fldOk (by decide) lf mo1) hs.2.1) ?_
            rintro e z2 ⟨A2, a2, ts2, rfl, o2, e2, hm2, k2⟩
            refine ⟨_, rfl, ?_⟩
            have mo2 := both mo1 k2.mod
            have hX2 := k2.blk hX1
            have hV2 := k2.blk hV1
            refine Exists.intro (fun _ => True) (And.intro (fun _ h => h) (And.intro trivial ?_))
            refine Exists.intro M (Exists.intro x.methods.length (Exists.intro m (And.intro (cellB hX2 rfl) ?_)))
            refine Exists.intro (fun _ => True) (And.intro (fun _ h => h) (And.intro trivial ?_))
            refine call_ (CloneMth_ok _ x.methods (fun b => w.heap.size ≤ b) z2 (LRep.mod mthOk (by decide) lm mo2) hs.2.2.1) ?_
            rintro e z3 ⟨A3, a3, ts3, rfl, o3, e3, hm3, k3⟩
            refine ⟨_, rfl, ?_⟩
            have mo3 := both mo2 k3.mod
            have hX3 := k3.blk hX2
            have hV3 := k3.blk hV2
            refine Exists.intro (fun _ => True) (And.intro (fun _ h => h) (And.intro trivial ?_))
            refine And.intro ⟨_, cellB hX3 rfl⟩ (And.intro (fzB hX3 _) (force_ ?_))
            refine stK hX3 (show (0 : Nat) < 5 by decide) ?_
            intro y1 hY1 y1m y1s
            refine Exists.intro (fun _ => True) (And.intro (fun _ h => h) (And.intro trivial ?_))
            refine And.intro ⟨_, cellB hY1 rfl⟩ (And.intro (fzB hY1 _) (force_ ?_))
            refine stK hY1 (show (3 : Nat) < 5 by decide) ?_
            intro y2 hY2 y2m y2s
            refine Exists.intro (fun _ => True) (And.intro (fun _ h => h) (And.intro trivial ?_))
            refine And.intro ⟨_, cellB hY2 rfl⟩ (And.intro (fzB hY2 _) (force_ ?_))
            refine stK hY2 (show (4 : Nat) < 5 by decide) ?_
            intro y3 hY3 y3m y3s
            exact hK ((A1, a1), (A2, a2), (A3, a3)) _ _ ⟨rfl, rfl, trivial⟩ (fin n0d hz0d o1 e1 hm1 k1 o2 e2 hm2 k2 o3 e3 hm3 k3 (both (both y1m y2m) y3m) hY3 hV3)
          · refine Exists.intro M (Exists.intro x.methods.length (Exists.intro m (And.intro (cellB hX1 rfl) ?_)))
            refine Exists.intro (fun _ => True) (And.intro (fun _ h => h) (And.intro trivial ?_))
            refine call_ (CloneFld_ok _ x.fields (fun b => w.heap.size ≤ b) z1 (LRep.mod fldOk (by decide) lf mo1) hs.2.1) ?_
            rintro e z2 ⟨A2, a2, ts2, rfl, o2, e2, hm2, k2⟩
            refine ⟨_, rfl, ?_⟩
            have mo2 := both mo1 k2.mod
            have hX2 := k2.blk hX1
            have hV2 := k2.blk hV1
            refine Exists.intro (fun _ => True) (And.intro (fun _ h => h) (And.intro trivial ?_))
            refine call_ (CloneMth_ok _ x.methods (fun b => w.heap.size ≤ b) z2 (LRep.mod mthOk (by decide) lm mo2) hs.2.2.1) ?_
            rintro e z3 ⟨A3, a3, ts3, rfl, o3, e3, hm3, k3⟩
            refine ⟨_, rfl, ?_⟩
            have mo3 := both mo2 k3.mod
            have hX3 := k3.blk hX2
            have hV3 := k3.blk hV2
            refine Exists.intro (fun _ => True) (And.intro (fun _ h => h) (And.intro trivial ?_))
            refine And.intro ⟨_, cellB hX3 rfl⟩ (And.intro (fzB hX3 _) (force_ ?_))
            refine stK hX3 (show (0 : Nat) < 5 by decide) ?_
            intro y1 hY1 y1m y1s
            refine Exists.intro (fun _ => True) (And.intro (fun _ h => h) (And.intro trivial ?_))
            refine And.intro ⟨_, cellB hY1 rfl⟩ (And.intro (fzB hY1 _) (force_ ?_))
            refine stK hY1 (show (3 : Nat) < 5 by decide) ?_
            intro y2 hY2 y2m y2s
            refine Exists.intro (fun _ => True) (And.intro (fun _ h => h) (And.intro trivial ?_))
            refine And.intro ⟨_, cellB hY2 rfl⟩ (And.intro (fzB hY2 _) (force_ ?_))
            refine stK hY2 (show (4 : Nat) < 5 by decide) ?_
            intro y3 hY3 y3m y3s
            exact hK ((A1, a1), (A2, a2), (A3, a3)) _ _ ⟨rfl, rfl, trivial⟩ (fin n0d hz0d o1 e1 hm1 k1 o2 e2 hm2 k2 o3 e3 hm3 k3 (both (both y1m y2m) y3m) hY3 hV3)
        · refine Exists.intro M (Exists.intro x.methods.length (Exists.intro m (And.intro (cellB hX0 rfl) ?_)))
          refine Exists.intro (fun _ => True) (And.intro (fun _ h => h) (And.intro trivial ?_))
          refine call_ (CloneEnt_ok _ x.pool (fun b => w.heap.size ≤ b) w0.drew (LRep.mod entOk (by decide) lp mo0) hs.1) ?_
          rintro e z1 ⟨A1, a1, ts1, rfl, o1, e1, hm1, k1⟩
          refine ⟨_, rfl, ?_⟩
          have mo1 := both mo0 k1.mod
          have hX1 := k1.blk hX0
          have hV1 := k1.blk hV0
          refine Exists.intro (fun _ => True) (And.intro (fun _ h => h) (And.intro trivial ?_))
          refine call_ (CloneFld_ok _ x.fields (fun b => w.heap.size ≤ b) z1 (LRep.mod fldOk (by decide) lf mo1) hs.2.1) ?_
          rintro e z2 ⟨A2, a2, ts2, rfl, o2, e2, hm2, k2⟩
          refine ⟨_, rfl, ?_⟩
          have mo2 := both mo1 k2.mod
          have hX2 := k2.blk hX1
          have hV2 := k2.blk hV1
          refine Exists.intro (fun _ => True) (And.intro (fun _ h => h) (And.intro trivial ?_))
          refine call_ (CloneMth_ok _ x.methods (fun b => w.heap.size ≤ b) z2 (LRep.mod mthOk (by decide) lm mo2) hs.2.2.1) ?_
          rintro e z3 ⟨A3, a3, ts3, rfl, o3, e3, hm3, k3⟩
          refine ⟨_, rfl, ?_⟩
          have mo3 := both mo2 k3.mod
          have hX3 := k3.blk hX2
          have hV3 := k3.blk hV2
          refine Exists.intro (fun _ => True) (And.intro (fun _ h => h) (And.intro trivial ?_))
          refine And.intro ⟨_, cellB hX3 rfl⟩ (And.intro (fzB hX3 _) (force_ ?_))
          refine stK hX3 (show (0 : Nat) < 5 by decide) ?_
          intro y1 hY1 y1m y1s
          refine Exists.intro (fun _ => True) (And.intro (fun _ h => h) (And.intro trivial ?_))
          refine And.intro ⟨_, cellB hY1 rfl⟩ (And.intro (fzB hY1 _) (force_ ?_))
          refine stK hY1 (show (3 : Nat) < 5 by decide) ?_
          intro y2 hY2 y2m y2s
          refine Exists.intro (fun _ => True) (And.intro (fun _ h => h) (And.intro trivial ?_))
          refine And.intro ⟨_, cellB hY2 rfl⟩ (And.intro (fzB hY2 _) (force_ ?_))
          refine stK hY2 (show (4 : Nat) < 5 by decide) ?_
          intro y3 hY3 y3m y3s
          exact hK ((A1, a1), (A2, a2), (A3, a3)) _ _ ⟨rfl, rfl, trivial⟩ (fin n0d hz0d o1 e1 hm1 k1 o2 e2 hm2 k2 o3 e3 hm3 k3 (both (both y1m y2m) y3m) hY3 hV3)
      · refine Exists.intro M (Exists.intro x.methods.length (Exists.intro m (And.intro (cellB hX0 rfl) ?_)))
        refine Exists.intro (fun _ => True) (And.intro (fun _ h => h) (And.intro trivial ?_))
        refine Exists.intro A (Exists.intro x.pool.length (Exists.intro a (And.intro (cellB hX0 rfl) ?_)))
        refine Exists.intro (fun _ => True) (And.intro (fun _ h => h) (And.intro trivial ?_))
        refine call_ (CloneEnt_ok _ x.pool (fun b => w.heap.size ≤ b) w0.drew (LRep.mod entOk (by decide) lp mo0) hs.1) ?_
        rintro e z1 ⟨A1, a1, ts1, rfl, o1, e1, hm1, k1⟩
        refine ⟨_, rfl, ?_⟩
        have mo1 := both mo0 k1.mod
        have hX1 := k1.blk hX0
        have hV1 := k1.blk hV0
        refine Exists.intro (fun _ => True) (And.intro (fun _ h => h) (And.intro trivial ?_))
        refine call_ (CloneFld_ok _ x.fields (fun b => w.heap.size ≤ b) z1 (LRep.mod fldOk (by decide) lf mo1) hs.2.1) ?_
        rintro e z2 ⟨A2, a2, ts2, rfl, o2, e2, hm2, k2⟩
        refine ⟨_, rfl, ?_⟩
        have mo2 := both mo1 k2.mod
        have hX2 := k2.blk hX1
        have hV2 := k2.blk hV1
        refine Exists.intro (fun _ => True) (And.intro (fun _ h => h) (And.intro trivial ?_))
        refine call_ (CloneMth_ok _ x.methods (fun b => w.heap.size ≤ b) z2 (LRep.mod mthOk (by decide) lm mo2) hs.2.2.1) ?_
        rintro e z3 ⟨A3, a3, ts3, rfl, o3, e3, hm3, k3⟩
        refine ⟨_, rfl, ?_⟩
        have mo3 := both mo2 k3.mod
        have hX3 := k3.blk hX2
        have hV3 := k3.blk hV2
        refine Exists.intro (fun _ => True) (And.intro (fun _ h => h) (And.intro trivial ?_))
        refine And.intro ⟨_, cellB hX3 rfl⟩ (And.intro (fzB hX3 _) (force_ ?_))
        refine stK hX3 (show (0 : Nat) < 5 by decide) ?_
        intro y1 hY1 y1m y1s
        refine Exists.intro (fun _ => True) (And.intro (fun _ h => h) (And.intro trivial ?_))
        refine And.intro ⟨_, cellB hY1 rfl⟩ (And.intro (fzB hY1 _) (force_ ?_))
        refine stK hY1 (show (3 : Nat) < 5 by decide) ?_
        intro y2 hY2 y2m y2s
        refine Exists.intro (fun _ => True) (And.intro (fun _ h => h) (And.intro trivial ?_))
        refine And.intro ⟨_, cellB hY2 rfl⟩ (And.intro (fzB hY2 _) (force_ ?_))
        refine stK hY2 (show (4 : Nat) < 5 by decide) ?_
        intro y3 hY3 y3m y3s
        exact hK ((A1, a1), (A2, a2), (A3, a3)) _ _ ⟨rfl, rfl, trivial⟩ (fin n0d hz0d o1 e1 hm1 k1 o2 e2 hm2 k2 o3 e3 hm3 k3 (both (both y1m y2m) y3m) hY3 hV3)
    · refine Exists.intro M (Exists.intro x.methods.length (Exists.intro m (And.intro (cellB hX0 rfl) ?_)))
      refine Exists.intro (fun _ => True) (And.intro (fun _ h => h) (And.intro trivial ?_))
      refine And.intro ?_ ?_
      · refine Exists.intro A (Exists.intro x.pool.length (Exists.intro a (And.intro (cellB hX0 rfl) ?_)))
        refine Exists.intro (fun _ => True) (And.intro (fun _ h => h) (And.intro trivial ?_))
        refine And.intro ?_ ?_
        · refine call_ (CloneEnt_ok _ x.pool (fun b => w.heap.size ≤ b) w0.drew (LRep.mod entOk (by decide) lp mo0) hs.1) ?_
          rintro e z1 ⟨A1, a1, ts1, rfl, o1, e1, hm1, k1⟩
          refine ⟨_, rfl, ?_⟩
          have mo1 := both mo0 k1.mod
          have hX1 := k1.blk hX0
          have hV1 := k1.blk hV0
          refine Exists.intro (fun _ => True) (And.intro (fun _ h => h) (And.intro trivial ?_))
          refine Exists.intro F (Exists.intro x.fields.length (Exists.intro f (And.intro (cellB hX1 rfl) ?_)))
          refine Exists.intro (fun _ => True) (And.intro (fun _ h => h) (And.intro trivial ?_))
          refine call_ (CloneFld_ok _ x.fields (fun b => w.heap.size ≤ b) z1 (LRep.mod fldOk (by decide) lf mo1) hs.2.1) ?_
          rintro e z2 ⟨A2, a2, ts2, rfl, o2, e2, hm2, k2⟩
          refine ⟨_, rfl, ?_⟩
          have mo2 := both mo1 k2.mod
          have hX2 := k2.blk hX1
          have hV2 := k2.blk hV1
          refine Exists.intro (fun _ => True) (And.intro (fun _ h => h) (And.intro trivial ?_))
          refine call_ (CloneMth_ok _ x.methods (fun b => w.heap.size ≤ b) z2 (LRep.mod mthOk (by decide) lm mo2) hs.2.2.1) ?_
          rintro e z3 ⟨A3, a3, ts3, rfl, o3, e3, hm3, k3⟩
          refine ⟨_, rfl, ?_⟩
          have mo3 := both mo2 k3.mod
          have hX3 := k3.blk hX2
          have hV3 := k3.blk hV2
          refine Exists.intro (fun _ => True) (And.intro (fun _ h => h) (And.intro trivial ?_))
          refine And.intro ⟨_, cellB hX3 rfl⟩ (And.intro (fzB hX3 _) (force_ ?_))
          refine stK hX3 (show (0 : Nat) < 5 by decide) ?_
          intro y1 hY1 y1m y1s
          refine Exists.intro (fun _ => True) (And.intro (fun _ h => h) (And.intro trivial ?_))
          refine And.intro ⟨_, cellB hY1 rfl⟩ (And.intro (fzB hY1 _) (force_ ?_))
          refine stK hY1 (show (3 : Nat) < 5 by decide) ?_
          intro y2 hY2 y2m y2s
          refine Exists.intro (fun _ => True) (And.intro (fun _ h => h) (And.intro trivial ?_))
          refine And.intro ⟨_, cellB hY2 rfl⟩ (And.intro (fzB hY2 _) (force_ ?_))
          refine stK hY2 (show (4 : Nat) < 5 by decide) ?_
          intro y3 hY3 y3m y3s
          exact hK ((A1, a1), (A2, a2), (A3, a3)) _ _ ⟨rfl, rfl, trivial⟩ (fin n0d hz0d o1 e1 hm1 k1 o2 e2 hm2 k2 o3 e3 hm3 k3 (both (both y1m y2m) y3m) hY3 hV3)
        · refine Exists.intro F (Exists.intro x.fields.length (Exists.intro f (And.intro (cellB hX0 rfl) ?_)))
          refine Exists.intro (fun _ => True) (And.intro (fun _ h => h) (And.intro trivial ?_))
          refine call_ (CloneEnt_ok _ x.pool (fun b => w.heap.size ≤ b) w0.drew (LRep.mod entOk (by decide) lp mo0) hs.1) ?_
          rintro e z1 ⟨A1, a1, ts1, rfl, o1, e1, hm1, k1⟩
          refine ⟨_, rfl, ?_⟩
          have mo1 := both mo0 k1.mod
          have hX1 := k1.blk hX0
          have hV1 := k1.blk hV0
          refine Exists.intro (fun _ => True) (And.intro (fun _ h => h) (And.intro trivial ?_))
          refine call_ (CloneFld_ok _ x.fields (fun b => w.heap.size ≤ b) z1 (LRep.mod fldOk (by decide) lf mo1) hs.2.1) ?_
          rintro e z2 ⟨A2, a2, ts2, rfl, o2, e2, hm2, k2⟩
          refine ⟨_, rfl, ?_⟩
          have mo2 := both mo1 k2.mod
          have hX2 := k2.blk hX1
          have hV2 := k2.blk hV1
          refine Exists.intro (fun _ => True) (And.intro (fun _ h => h) (And.intro trivial ?_))
          refine call_ (CloneMth_ok _ x.methods (fun b => w.heap.size ≤ b) z2 (LRep.mod mthOk (by decide) lm mo2) hs.2.2.1) ?_
          rintro e z3 ⟨A3, a3, ts3, rfl, o3, e3, hm3, k3⟩
          refine ⟨_, rfl, ?_⟩
          have mo3 := both mo2 k3.mod
          have hX3 := k3.blk hX2
          have hV3 := k3.blk hV2
          refine Exists.intro (fun _ => True) (And.intro (fun _ h => h) (And.intro trivial ?_))
          refine And.intro ⟨_, cellB hX3 rfl⟩ (And.intro (fzB hX3 _) (force_ ?_))
          refine stK hX3 (show (0 : Nat) < 5 by decide) ?_
          intro y1 hY1 y1m y1s
          refine Exists.intro (fun _ => True) (And.intro (fun _ h => h) (And.intro trivial ?_))
          refine And.intro ⟨_, cellB hY1 rfl⟩ (And.intro (fzB hY1 _) (force_ ?_))
          refine stK hY1 (show (3 : Nat) < 5 by decide) ?_
          intro y2 hY2 y2m y2s
          refine Exists.intro (fun _ => True) (And.intro (fun _ h => h) (And.intro trivial ?_))
          refine And.intro ⟨_, cellB hY2 rfl⟩ (And.intro (fzB hY2 _) (force_ ?_))
          refine stK hY2 (show (4 : Nat) < 5 by decide) ?_
          intro y3 hY3 y3m y3s
          exact hK ((A1, a1), (A2, a2), (A3, a3)) _ _ ⟨rfl, rfl, trivial⟩ (fin n0d hz0d o1 e1 hm1 k1 o2 e2 hm2 k2 o3 e3 hm3 k3 (both (both y1m y2m) y3m) hY3 hV3)
      · refine Exists.intro F (Exists.intro x.fields.length (Exists.intro f (And.intro (cellB hX0 rfl) ?_)))
        refine Exists.intro (fun _ => True) (And.intro (fun _ h => h) (And.intro trivial ?_))
        refine Exists.intro A (Exists.intro x.pool.length (Exists.intro a (And.intro (cellB hX0 rfl) ?_)))
        refine Exists.intro (fun _ => True) (And.intro (fun _ h => h) (And.intro trivial ?_))
        refine call_ (CloneEnt_ok _ x.pool (fun b => w.heap.size ≤ b) w0.drew (LRep.mod entOk (by decide) lp mo0) hs.1) ?_
        rintro e z1 ⟨A1, a1, ts1, rfl, o1, e1, hm1, k1⟩
        refine ⟨_, rfl, ?_⟩
        have mo1 := both mo0 k1.mod
        have hX1 := k1.blk hX0
        have hV1 := k1.blk hV0
        refine Exists.intro (fun _ => True) (And.intro (fun _ h => h) (And.intro trivial ?_))
        refine call_ (CloneFld_ok _ x.fields (fun b => w.heap.size ≤ b) z1 (LRep.mod fldOk (by decide) lf mo1) hs.2.1) ?_
        rintro e z2 ⟨A2, a2, ts2, rfl, o2, e2, hm2, k2⟩
        refine ⟨_, rfl, ?_⟩
        have mo2 := both mo1 k2.mod
        have hX2 := k2.blk hX1
        have hV2 := k2.blk hV1
        refine Exists.intro (fun _ => True) (And.intro (fun _ h => h) (And.intro trivial ?_))
        refine call_ (CloneMth_ok _ x.methods (fun b => w.heap.size ≤ b) z2 (LRep.mod mthOk (by decide) lm mo2) hs.2.2.1) ?_
        rintro e z3 ⟨A3, a3, ts3, rfl, o3, e3, hm3, k3⟩
        refine ⟨_, rfl, ?_⟩
        have mo3 := both mo2 k3.mod
        have hX3 := k3.blk hX2
        have hV3 := k3.blk hV2
        refine Exists.intro (fun _ => True) (And.intro (fun _ h => h) (And.intro trivial ?_))
        refine And.intro ⟨_, cellB hX3 rfl⟩ (And.intro (fzB hX3 _) (force_ ?_))
        refine stK hX3 (show (0 : Nat) < 5 by decide) ?_
        intro y1 hY1 y1m y1s
        refine Exists.intro (fun _ => True) (And.intro (fun _ h => h) (And.intro trivial ?_))
        refine And.intro ⟨_, cellB hY1 rfl⟩ (And.intro (fzB hY1 _) (force_ ?_))
        refine stK hY1 (show (3 : Nat) < 5 by decide) ?_
        intro y2 hY2 y2m y2s
        refine Exists.intro (fun _ => True) (And.intro (fun _ h => h) (And.intro trivial ?_))
        refine And.intro ⟨_, cellB hY2 rfl⟩ (And.intro (fzB hY2 _) (force_ ?_))
        refine stK hY2 (show (4 : Nat) < 5 by decide) ?_
        intro y3 hY3 y3m y3s
        exact hK ((A1, a1), (A2, a2), (A3, a3)) _ _ ⟨rfl, rfl, trivial⟩ (fin n0d hz0d o1 e1 hm1 k1 o2 e2 hm2 k2 o3 e3 hm3 k3 (both (both y1m y2m) y3m) hY3 hV3)
  rintro ⟨⟨A1, a1⟩, ⟨A2, a2⟩, ⟨A3, cM⟩⟩ w1 fr1 ⟨n1, hX1, hV1, q0, ts0, hq0, lo1, lo2, own3, e3, hm3⟩
  dsimp only at hX1 lo1 lo2 own3
  clear fin hX0' hV0'
  have hz1 := n1.size
  refine seq_cut (σ := Unit) (fun _ => [(1, .pointer (some ⟨X, 0, none⟩)), (2, .pointer (some ⟨V, 0, none⟩))]) (fun _ w' => New w w' ∧ w'.heap[X]? = some (.cells #[.slice A1 x.pool.length a1, strV x.name, strV x.super, .slice A2 x.fields.length a2, .slice A3 x.methods.length cM] 26 (0, 0)) ∧ w'.heap[V]? = some (.cells #[.slice none 0 0, .string ⟨#[]⟩, .string ⟨#[]⟩, .slice none 0 0, .slice none 0 0] 26 (0, 0)) ∧ LO 42 5 entR w' (fun b => b < w.heap.size + 2) (.slice A1 x.pool.length a1) x.pool ∧ LO 44 3 fldR w' (fun b => b < w.heap.size + 2) (.slice A2 x.fields.length a2) x.fields ∧ LO 36 8 mthO w' (fun b => b < w.heap.size + 2) (.slice A3 x.methods.length cM) x.methods) ?_ ?_
  · rintro _ wf frf ⟨nf, hXf, hVf, lof1, lof2, lof3⟩
    refine loadN_row (vs := [.slice A1 x.pool.length a1, strV x.name, strV x.super, .slice A2 x.fields.length a2, .slice A3 x.methods.length cM]) (rowB hXf) rfl ?_
    refine And.intro rfl ?_
    refine storeN_all (vs := [.slice A1 x.pool.length a1, strV x.name, strV x.super, .slice A2 x.fields.length a2, .slice A3 x.methods.length cM]) hVf rfl (one_cls5 _ _ _ _ _ _ _ _ _ _ _) ?_
    intro wz hz mz sz
    refine loadN_row (vs := [.slice A1 x.pool.length a1, strV x.name, strV x.super, .slice A2 x.fields.length a2, .slice A3 x.methods.length cM]) (rowB hz) rfl ?_
    have mz' : Mod (fun b => b < w.heap.size + 2) wf wz := mz.mono fun b _ e => by omega
    exact ⟨_, rfl, ⟨_, _, _, rfl, (lof1.mod entOk (by decide) mz').weak entOk (fun b _ e => by omega), (lof2.mod fldOk (by decide) mz').weak fldOk (fun b _ e => by omega), (lof3.mod mthOOk (by decide) mz').weak mthOOk (fun b _ e => by omega)⟩, nf.st mz (by omega)⟩
  intro K hK
  refine seq_cut (σ := Unit) (fun _ => [(1, .pointer (some ⟨X, 0, none⟩)), (2, .pointer (some ⟨V, 0, none⟩)), (21, zi (x.methods.length : Int)), (22, zi ((0 : Nat) : Int))]) (fun _ w' => w' = w1) ?_ ?_
  rotate_left
  · intro K1 hK1
    refine Exists.intro A3 (Exists.intro x.methods.length (Exists.intro cM (And.intro (cellB hX1 rfl) ?_)))
    exact hK1 () _ _ ⟨rfl, rfl, rfl, rfl, trivial⟩ rfl
  rintro _ wq frq hwq
  obtain rfl := hwq.symm
  by_cases hn0 : x.methods.length = 0
  · refine den_loop (σ := Nat) (fun i => [(1, .pointer (some ⟨X, 0, none⟩)), (2, .pointer (some ⟨V, 0, none⟩)), (21, zi (x.methods.length : Int)), (22, zi (i : Int))]) (fun m i wl => i = 0 ∧ wl = w1) 0 0 ⟨rfl, rfl, rfl, rfl, trivial⟩ ⟨rfl, rfl⟩ ?_
    rintro m i wl frl ⟨rfl, hwl⟩
    obtain rfl := hwl.symm
    refine if_p (fun hlt => absurd (show ((0 : Nat) : Int) < (x.methods.length : Int) from hlt) (by omega)) (fun _ => ?_)
    have ets : ts0 = [] := List.eq_nil_of_length_eq_zero (by rw [← hn0, ← e3, List.length_map])
    subst ets
    exact hK () _ _ ⟨rfl, rfl, trivial⟩ ⟨n1, hX1, hV1, lo1.weak entOk fun b _ e => .inl e, lo2.weak fldOk fun b _ e => .inl e, lo_own mthOOk own3 e3 (by omega) (fun b hb _ e => by omega) (fun _ h => (by cases h))⟩
  obtain ⟨g, cM', arr0, hA3, hgb, hgl, hb0, hcM, ar0⟩ := ar_own mthOk own3 (by rw [← e3, List.length_map]) hn0 hm3
  cases hA3
  have hXg : ¬ X = g := by omega
  have hVg : ¬ V = g := by omega
  have hml : x.methods.length ≤ 5000 := hs.2.2.1
  refine den_loop (σ := Nat) (fun i => [(1, .pointer (some ⟨X, 0, none⟩)), (2, .pointer (some ⟨V, 0, none⟩)), (21, zi (x.methods.length : Int)), (22, zi (i : Int))]) (fun m i wl => m + i = x.methods.length ∧ ∃ arr ts, wl.heap[g]? = some (.cells arr 36 (0, 0)) ∧ AR arr 8 cM ts ∧ ts.map (·.2) = x.methods ∧ (∀ j u, ts[j]? = some u → if j < i then mthO wl (fun b => b < w.heap.size + 2 ∨ b = g) u.1 u.2 else mthR wl (fun b => w.heap.size ≤ b) u.1 u.2) ∧ Mod (fun b => b = g) w1 wl) x.methods.length 0 ⟨rfl, rfl, rfl, rfl, trivial⟩ ⟨rfl, arr0, ts0, hb0, ar0, e3, (fun j u hu => by
    rw [if_neg (by omega)]
    exact hm3 u (List.mem_of_getElem? hu)), Mod.refl _ _⟩ ?_
  rintro m i wl frl ⟨hfuel, arr, ts, hb, ar, ets, hts, ml⟩
  have hXl := ml.blk hX1 hXg
  have hVl := ml.blk hV1 hVg
  have nl : New w wl := Mod.trans n1 ml fun b _ e => by omega
  have hzl := ml.size
  have htl : ts.length = x.methods.length := by rw [← ets, List.length_map]
  refine seq_cut (σ := Unit) (fun _ => [(1, .pointer (some ⟨X, 0, none⟩)), (2, .pointer (some ⟨V, 0, none⟩)), (21, zi (x.methods.length : Int)), (22, zi (i : Int)), (23, .bool (decide ((i : Int) < (x.methods.length : Int))))]) (fun _ w' => w' = wl) ?_ ?_
  rotate_left
  · intro K1 hK1
    exact hK1 () _ _ ⟨rfl, rfl, rfl, rfl, rfl, trivial⟩ rfl
  rintro _ wq1 frq1 hwq1
  obtain rfl := hwq1.symm
  refine seq_cut (σ := Unit) (fun _ => [(1, .pointer (some ⟨X, 0, none⟩)), (2, .pointer (some ⟨V, 0, none⟩)), (21, zi (x.methods.length : Int)), (22, zi (i : Int))]) (fun _ w' => w' = wl ∧ (i : Int) < (x.methods.length : Int)) ?_ ?_
  rotate_left
  · intro K1 hK1
    refine if_p (fun hlt => hK1 () _ _ ⟨rfl, rfl, rfl, rfl, trivial⟩ ⟨rfl, hlt⟩) (fun hge => ?_)
    replace hge : ¬ (i : Int) < (x.methods.length : Int) := hge
    have ml' : Mod (fun b => b < w.heap.size + 2 ∨ q0 ≤ b) w1 wl := ml.mono fun b _ e => .inr (by omega)
    refine hK () _ _ ⟨rfl, rfl, trivial⟩ ⟨nl, hXl, hVl, ?_, ?_, ?_⟩
    · exact (lo1.mod entOk (by decide) ml').weak entOk fun b _ e => .inl e
    · exact (lo2.mod fldOk (by decide) ml').weak fldOk fun b _ e => .inl e
    · exact ar_lrep mthOOk (by decide) hb ar hcM ets (by omega) (fun e => by omega) (fun u hu => by
        obtain ⟨j, hj, rfl⟩ := List.mem_iff_getElem.1 hu
        have := hts j _ (List.getElem?_eq_getElem hj)
        rw [if_pos (by omega)] at this
        exact mthOOk.weak this fun b _ e => .inl e)
  rintro _ wq2 frq2 ⟨hwq2, hlt⟩
  obtain rfl := hwq2.symm
  replace hlt : (i : Int) < (x.methods.length : Int) := hlt
  have hi : i < x.methods.length := by omega
  have hil : i < ts.length := by omega
  obtain ⟨m, rfl⟩ : ∃ m', m = m' + 1 := ⟨m - 1, by omega⟩
  have inc : Value.int .i64 (IntKind.i64.wrap ((i : Int) + 1)) = .int .i64 ((i + 1 : Nat) : Int) := incN hi (by omega)
  refine seq_cut (σ := Unit) (fun _ => [(1, .pointer (some ⟨X, 0, none⟩)), (2, .pointer (some ⟨V, 0, none⟩)), (21, zi (x.methods.length : Int)), (22, zi (i : Int))]) (fun _ w' => ∃ arr ts, w'.heap[g]? = some (.cells arr 36 (0, 0)) ∧ AR arr 8 cM ts ∧ ts.map (·.2) = x.methods ∧ (∀ j u, ts[j]? = some u → if j < i + 1 then mthO w' (fun b => b < w.heap.size + 2 ∨ b = g) u.1 u.2 else mthR w' (fun b => w.heap.size ≤ b) u.1 u.2) ∧ Mod (fun b => b = g) w1 w') ?_ ?_
  · rintro _ wz frz hz
    exact ⟨m, i + 1, by omega, ⟨rfl, rfl, rfl, inc, trivial⟩, by omega, hz⟩
  intro K2 hK2
  refine block_ ?_
  refine seq_cut (σ := Unit) (fun _ => [(1, .pointer (some ⟨X, 0, none⟩)), (2, .pointer (some ⟨V, 0, none⟩)), (21, zi (x.methods.length : Int)), (22, zi (i : Int)), (3, zi (i : Int))]) (fun _ w' => w' = wl) ?_ ?_
  rotate_left
  · intro K3 hK3
    exact hK3 () _ _ ⟨rfl, rfl, rfl, rfl, rfl, trivial⟩ rfl
  rintro _ wy fry hwy
  obtain rfl := hwy.symm
  refine seq_cut (σ := Unit) (fun _ => [(1, .pointer (some ⟨X, 0, none⟩)), (2, .pointer (some ⟨V, 0, none⟩)), (21, zi (x.methods.length : Int)), (22, zi (i : Int)), (4, .pointer (some (((⟨g, 0, none⟩ : Addr).add ((i : Int).toNat * 8)).add 3)))]) (fun _ w' => w' = wl) ?_ ?_
  rotate_left
  · intro K3 hK3
    refine Exists.intro (some ⟨g, 0, none⟩) (Exists.intro x.methods.length (Exists.intro cM (And.intro (cellB hXl rfl) ?_)))
    refine And.intro (by omega) (And.intro hlt ?_)
    exact hK3 () _ _ ⟨rfl, rfl, rfl, rfl, rfl, trivial⟩ rfl
  rintro _ wy2 fry2 hwy2
  obtain rfl := hwy2.symm
  obtain ⟨⟨ycs, y⟩, hyy⟩ : ∃ u, u = ts[i] := ⟨_, rfl⟩
  have hti : ts[i]? = some (ycs, y) := by rw [List.getElem?_eq_getElem hil, ← hyy]
  have hmem : y ∈ x.methods := by
    rw [← ets]
    exact List.mem_map.2 ⟨_, List.mem_of_getElem? hti, rfl⟩
  have hy := hs.2.2.2 y hmem
  have hym := hts i _ hti
  rw [if_neg (by omega)] at hym
  dsimp only at hym
  obtain ⟨_, _, _, rfl, l1, l2, l3⟩ := hym
  obtain ⟨Bo, bo, rfl, _⟩ := l1.get u8Ok (by decide)
  obtain ⟨Ho, ho, rfl, _⟩ := l2.get hndOk (by decide)
  obtain ⟨Do, do_, rfl, _⟩ := l3.get mpOk (by decide)
  have hat := (ar.at_ i _ hti).2
  dsimp only at hat
  refine seq_cut (σ := (Option Addr × Nat) × (Option Addr × Nat) × (Option Addr × Nat)) (fun _ => [(1, .pointer (some ⟨X, 0, none⟩)), (2, .pointer (some ⟨V, 0, none⟩)), (21, zi (x.methods.length : Int)), (22, zi (i : Int)), (4, .pointer (some (((⟨g, 0, none⟩ : Addr).add ((i : Int).toNat * 8)).add 3)))]) (fun t w' => ∃ arr' us q, w'.heap[g]? = some (.cells arr' 36 (0, 0)) ∧ AR arr' 8 cM (ts.set i ([zi y.acc, strV y.name, strV y.typ, zi y.code.stack, zi y.code.locals, .slice t.1.1 y.code.bytes.length t.1.2, .slice t.2.1.1 y.code.hands.length t.2.1.2, .slice t.2.2.1 y.code.maps.length t.2.2.2], y)) ∧ Mod (fun b => b = g) wl w' ∧ wl.heap.size ≤ q ∧ q ≤ w'.heap.size ∧ LO 5 1 u8R w' (fun b => b < wl.heap.size ∨ q ≤ b) (.slice t.1.1 y.code.bytes.length t.1.2) y.code.bytes ∧ LO 46 4 hndR w' (fun b => b < wl.heap.size ∨ q ≤ b) (.slice t.2.1.1 y.code.hands.length t.2.1.2) y.code.hands ∧ w'.ownsRow q 49 3 (.slice t.2.2.1 y.code.maps.length t.2.2.2) y.code.maps.length (cellsOf us) ∧ us.map (·.2) = y.code.maps ∧ ∀ u ∈ us, mpR w' (fun b => w.heap.size ≤ b) u.1 u.2) ?_ ?_
  rotate_left
  · intro K hK
    have fin6 : ∀ {z0 z1 z2 z3 y3 : World} {A1 : Option Addr} {a1 : Nat} {ts1 : List (List Value × UInt8)} {A2 : Option Addr} {a2 : Nat} {ts2 : List (List Value × Hnd)} {A3 : Option Addr} {a3 : Nat} {ts3 : List (List Value × Mp)} , New wl z0 → z1.ownsRow z0.heap.size 5 1 (.slice A1 y.code.bytes.length a1) y.code.bytes.length (cellsOf ts1) → ts1.map (·.2) = y.code.bytes → (∀ y ∈ ts1, u8R z0 (fun b => w.heap.size ≤ b) y.1 y.2) → New z0 z1 → z2.ownsRow z1.heap.size 46 4 (.slice A2 y.code.hands.length a2) y.code.hands.length (cellsOf ts2) → ts2.map (·.2) = y.code.hands → (∀ y ∈ ts2, hndR z1 (fun b => w.heap.size ≤ b) y.1 y.2) → New z1 z2 → z3.ownsRow z2.heap.size 49 3 (.slice A3 y.code.maps.length a3) y.code.maps.length (cellsOf ts3) → ts3.map (·.2) = y.code.maps → (∀ y ∈ ts3, mpR z2 (fun b => w.heap.size ≤ b) y.1 y.2) → New z2 z3 → Mod (fun b => b = g) z3 y3 → y3.heap[g]? = some (.cells (((arr.setIfInBounds (i * 8 + (3 + 2)) (.slice A1 y.code.bytes.length a1)).setIfInBounds (i * 8 + (3 + 3)) (.slice A2 y.code.hands.length a2)).setIfInBounds (i * 8 + (3 + 4)) (.slice A3 y.code.maps.length a3)) 36 (0, 0)) → ∃ arr' us q, y3.heap[g]? = some (.cells arr' 36 (0, 0)) ∧ AR arr' 8 cM (ts.set i ([zi y.acc, strV y.name, strV y.typ, zi y.code.stack, zi y.code.locals, .slice A1 y.code.bytes.length a1, .slice A2 y.code.hands.length a2, .slice A3 y.code.maps.length a3], y)) ∧ Mod (fun b => b = g) wl y3 ∧ wl.heap.size ≤ q ∧ q ≤ y3.heap.size ∧ LO 5 1 u8R y3 (fun b => b < wl.heap.size ∨ q ≤ b) (.slice A1 y.code.bytes.length a1) y.code.bytes ∧ LO 46 4 hndR y3 (fun b => b < wl.heap.size ∨ q ≤ b) (.slice A2 y.code.hands.length a2) y.code.hands ∧ y3.ownsRow q 49 3 (.slice A3 y.code.maps.length a3) y.code.maps.length (cellsOf us) ∧ us.map (·.2) = y.code.maps ∧ ∀ u ∈ us, mpR y3 (fun b => w.heap.size ≤ b) u.1 u.2 := by
      intro z0 z1 z2 z3 y3 A1 a1 ts1 A2 a2 ts2 A3 a3 ts3 n o1 e1 hm1 k1 o2 e2 hm2 k2 o3 e3 hm3 k3 ym hY
      have sz0 := n.size
      have sz1 := k1.size
      have sz2 := k2.size
      have sz3 := k3.size
      have szy := ym.size
      have hz12 : z2.heap.size ≤ z3.heap.size := sz3
      refine ⟨_, ts3, z2.heap.size, hY, ?_, Mod.trans ((n.trans k1).trans (k2.trans k3)).mod ym fun b _ e => e, by omega, by omega, ?_, ?_, ?_, e3, fun u hu => ?_⟩
      · have a1' := ar.put (k := 3 + 2) (v := .slice A1 y.code.bytes.length a1) hti (by decide)
        have a2' := a1'.put (k := 3 + 3) (v := .slice A2 y.code.hands.length a2) (get_set hti) (by decide)
        have a3' := a2'.put (k := 3 + 4) (v := .slice A3 y.code.maps.length a3) (get_set (get_set hti)) (by decide)
        rw [List.set_set, List.set_set] at a3'
        exact a3'
      · have l := lo_own (S := fun b => b < wl.heap.size ∨ z2.heap.size ≤ b) u8Ok o1 e1 (by have := hy.1; omega) (fun b hb hl e => by omega) (fun u hu => hm1 u hu)
        exact l.mod u8Ok (by decide) (Mod.trans (k2.trans k3).mod ym fun b _ e => .inl (by omega))
      · have l := lo_own (S := fun b => b < wl.heap.size ∨ z2.heap.size ≤ b) hndOk o2 e2 (by have := hy.2.1; omega) (fun b hb hl e => by omega) (fun u hu => hm2 u hu)
        exact l.mod hndOk (by decide) (Mod.trans k3.mod ym fun b _ e => .inl (by omega))
      · have o3' := own_mod ym o3 (fun b hb e => by have := (o3.lt b hb).1; omega)
        exact o3'
      · exact mpOk.mod (mpOk.mod (hm3 u hu) (k3.mod.mono (fun _ _ e => False.elim e))) (ym.mono fun b _ e => (show w.heap.size ≤ b by omega))
    have hnd := New.drew wl
    have hB0 := hnd.blk hb
    have mo0 : Mod (fun b => w.heap.size ≤ b) wl wl.drew := hnd.mod
    refine draw_ (w := wl) ok (.q 0 (.q 1 (.q 2 (.q 3 (.q 4 (.q 5 (.q 8 (.q 9 (.q 10 (.q 13 (.q 14 (.q 15 (.br (.br (.e 6 (.br (.br (.e 7 (.br (.e 11 (.br (.e 12 (.e 16 (.e 17 (.q 18 (.q 19 (.e 20 (.q 21 (.q 22 (.e 23 (.q 24 (.q 25 (.e 26 .done)))))))))))) (.e 16 (.e 12 (.e 17 (.q 18 (.q 19 (.e 20 (.q 21 (.q 22 (.e 23 (.q 24 (.q 25 (.e 26 .done)))))))))))))) (.e 16 (.e 11 (.e 12 (.e 17 (.q 18 (.q 19 (.e 20 (.q 21 (.q 22 (.e 23 (.q 24 (.q 25 (.e 26 .done))))))))))))))) (.e 11 (.br (.e 7 (.br (.e 12 (.e 16 (.e 17 (.q 18 (.q 19 (.e 20 (.q 21 (.q 22 (.e 23 (.q 24 (.q 25 (.e 26 .done)))))))))))) (.e 16 (.e 12 (.e 17 (.q 18 (.q 19 (.e 20 (.q 21 (.q 22 (.e 23 (.q 24 (.q 25 (.e 26 .done)))))))))))))) (.e 16 (.e 7 (.e 12 (.e 17 (.q 18 (.q 19 (.e 20 (.q 21 (.q 22 (.e 23 (.q 24 (.q 25 (.e 26 .done)))))))))))))))) (.e 16 (.br (.e 7 (.e 11 (.e 12 (.e 17 (.q 18 (.q 19 (.e 20 (.q 21 (.q 22 (.e 23 (.q 24 (.q 25 (.e 26 .done))))))))))))) (.e 11 (.e 7 (.e 12 (.e 17 (.q 18 (.q 19 (.e 20 (.q 21 (.q 22 (.e 23 (.q 24 (.q 25 (.e 26 .done))))))))))))))))) (.e 11 (.br (.e 6 (.br (.e 7 (.br (.e 12 (.e 16 (.e 17 (.q 18 (.q 19 (.e 20 (.q 21 (.q 22 (.e 23 (.q 24 (.q 25 (.e 26 .done)))))))))))) (.e 16 (.e 12 (.e 17 (.q 18 (.q 19 (.e 20 (.q 21 (.q 22 (.e 23 (.q 24 (.q 25 (.e 26 .done)))))))))))))) (.e 16 (.e 7 (.e 12 (.e 17 (.q 18 (.q 19 (.e 20 (.q 21 (.q 22 (.e 23 (.q 24 (.q 25 (.e 26 .done))))))))))))))) (.e 16 (.e 6 (.e 7 (.e 12 (.e 17 (.q 18 (.q 19 (.e 20 (.q 21 (.q 22 (.e 23 (.q 24 (.q 25 (.e 26 .done))))))))))))))))) (.e 16 (.br (.e 6 (.br (.e 7 (.e 11 (.e 12 (.e 17 (.q 18 (.q 19 (.e 20 (.q 21 (.q 22 (.e 23 (.q 24 (.q 25 (.e 26 .done))))))))))))) (.e 11 (.e 7 (.e 12 (.e 17 (.q 18 (.q 19 (.e 20 (.q 21 (.q 22 (.e 23 (.q 24 (.q 25 (.e 26 .done))))))))))))))) (.e 11 (.e 6 (.e 7 (.e 12 (.e 17 (.q 18 (.q 19 (.e 20 (.q 21 (.q 22 (.e 23 (.q 24 (.q 25 (.e 26 .done))))))))))))))))))))))))))))) [26] (fun _ => True) (by kernel_rfl) (by kernel_rfl) (by kernel_rfl) (by kernel_rfl) (by kernel_rfl) trivial ?_
    refine And.intro (And.intro ?_ ?_) ?_
    · refine Exists.intro Bo (Exists.intro y.code.bytes.length (Exists.intro bo (And.intro (cellA (adr3 g i 8 3 2) hB0 (hat 5 _ rfl)) ?_)))
      refine Exists.intro (fun _ => True) (And.intro (fun _ h => h) (And.intro trivial ?_))
      refine And.intro (And.intro ?_ ?_) ?_
      · refine call_ (CloneU8_ok _ y.code.bytes (fun b => w.heap.size ≤ b) wl.drew (LRep.mod u8Ok (by decide) l1 mo0) hy.1) ?_
        rintro e z1 ⟨A1, a1, ts1, rfl, o1, e1, hm1, k1⟩
        refine ⟨_, rfl, ?_⟩
        have mo1 := both mo0 k1.mod
        have hB1 := k1.blk hB0
        refine Exists.intro (fun _ => True) (And.intro (fun _ h => h) (And.intro trivial ?_))
        refine And.intro ?_ ?_
        · refine Exists.intro Ho (Exists.intro y.code.hands.length (Exists.intro ho (And.intro (cellA (adr3 g i 8 3 3) hB1 (hat 6 _ rfl)) ?_)))
          refine Exists.intro (fun _ => True) (And.intro (fun _ h => h) (And.intro trivial ?_))
          refine And.intro ?_ ?_
          · refine call_ (CloneHnd_ok _ y.code.hands (fun b => w.heap.size ≤ b) z1 (LRep.mod hndOk (by decide) l2 mo1) hy.2.1) ?_
            rintro e z2 ⟨A2, a2, ts2, rfl, o2, e2, hm2, k2⟩
            refine ⟨_, rfl, ?_⟩
            have mo2 := both mo1 k2.mod
            have hB2 := k2.blk hB1
            refine Exists.intro (fun _ => True) (And.intro (fun _ h => h) (And.intro trivial ?_))
            refine Exists.intro Do (Exists.intro y.code.maps.length (Exists.intro do_ (And.intro (cellA (adr3 g i 8 3 4) hB2 (hat 7 _ rfl)) ?_)))
            refine Exists.intro (fun _ => True) (And.intro (fun _ h => h) (And.intro trivial ?_))
            refine call_ (CloneMp_ok _ y.code.maps (fun b => w.heap.size ≤ b) z2 (LRep.mod mpOk (by decide) l3 mo2) hy.2.2.1) ?_
            rintro e z3 ⟨A3, a3, ts3, rfl, o3, e3, hm3, k3⟩
            refine ⟨_, rfl, ?_⟩
            have mo3 := both mo2 k3.mod
            have hB3 := k3.blk hB2
            refine Exists.intro (fun _ => True) (And.intro (fun _ h => h) (And.intro trivial ?_))
            refine And.intro (exA (adr3 g i 8 3 2) hB3 (ar.lt hil (show 3 + 2 < 8 by decide))) (And.intro (fzA (adr3 g i 8 3 2) hB3) (force_ ?_))
            refine stA (adr3 g i 8 3 2) hB3 (ar.lt hil (show 3 + 2 < 8 by decide)) ?_
            intro y1 hY1 y1m y1s
            refine Exists.intro (fun _ => True) (And.intro (fun _ h => h) (And.intro trivial ?_))
            refine And.intro (exA (adr3 g i 8 3 3) hY1 (by simpa using ar.lt hil (show 3 + 3 < 8 by decide))) (And.intro (fzA (adr3 g i 8 3 3) hY1) (force_ ?_))
            refine stA (adr3 g i 8 3 3) hY1 (by simpa using ar.lt hil (show 3 + 3 < 8 by decide)) ?_
            intro y2 hY2 y2m y2s
            refine Exists.intro (fun _ => True) (And.intro (fun _ h => h) (And.intro trivial ?_))
            refine And.intro (exA (adr3 g i 8 3 4) hY2 (by simpa using ar.lt hil (show 3 + 4 < 8 by decide))) (And.intro (fzA (adr3 g i 8 3 4) hY2) (force_ ?_))
            refine stA (adr3 g i 8 3 4) hY2 (by simpa using ar.lt hil (show 3 + 4 < 8 by decide)) ?_
            intro y3 hY3 y3m y3s
            exact hK ((A1, a1), (A2, a2), (A3, a3)) _ _ ⟨rfl, rfl, rfl, rfl, rfl, trivial⟩ (fin6 hnd o1 e1 hm1 k1 o2 e2 hm2 k2 o3 e3 hm3 k3 (both (both y1m y2m) y3m) hY3)
          · refine Exists.intro Do (Exists.intro y.code.maps.length (Exists.intro do_ (And.intro (cellA (adr3 g i 8 3 4) hB1 (hat 7 _ rfl)) ?_)))
            refine Exists.intro (fun _ => True) (And.intro (fun _ h => h) (And.intro trivial ?_))
            refine call_ (CloneHnd_ok _ y.code.hands (fun b => w.heap.size ≤ b) z1 (LRep.mod hndOk (by decide) l2 mo1) hy.2.1) ?_
            rintro e z2 ⟨A2, a2, ts2, rfl, o2, e2, hm2, k2⟩
            refine ⟨_, rfl, ?_⟩
            have mo2 := both mo1 k2.mod
            have hB2 := k2.blk hB1
            refine Exists.intro (fun _ => True) (And.intro (fun _ h => h) (And.intro trivial ?_))
            refine call_ (CloneMp_ok _ y.code.maps (fun b => w.heap.size ≤ b) z2 (LRep.mod mpOk (by decide) l3 mo2) hy.2.2.1) ?_
            rintro e z3 ⟨A3, a3, ts3, rfl, o3, e3, hm3, k3⟩
            refine ⟨_, rfl, ?_⟩
            have mo3 := both mo2 k3.mod
            have hB3 := k3.blk hB2
            refine Exists.intro (fun _ => True) (And.intro (fun _ h => h) (And.intro trivial ?_))
            refine And.intro (exA (adr3 g i 8 3 2) hB3 (ar.lt hil (show 3 + 2 < 8 by decide))) (And.intro (fzA (adr3 g i 8 3 2) hB3) (force_ ?_))
            refine stA (adr3 g i 8 3 2) hB3 (ar.lt hil (show 3 + 2 < 8 by decide)) ?_
            intro y1 hY1 y1m y1s
            refine Exists.intro (fun _ => True) (And.intro (fun _ h => h) (And.intro trivial ?_))
            refine And.intro (exA (adr3 g i 8 3 3) hY1 (by simpa using ar.lt hil (show 3 + 3 < 8 by decide))) (And.intro (fzA (adr3 g i 8 3 3) hY1) (force_ ?_))
            refine stA (adr3 g i 8 3 3) hY1 (by simpa using ar.lt hil (show 3 + 3 < 8 by decide)) ?_
            intro y2 hY2 y2m y2s
            refine Exists.intro (fun _ => True) (And.intro (fun _ h => h) (And.intro trivial ?_))
            refine And.intro (exA (adr3 g i 8 3 4) hY2 (by simpa using ar.lt hil (show 3 + 4 < 8 by decide))) (And.intro (fzA (adr3 g i 8 3 4) hY2) (force_ ?_))
            refine stA (adr3 g i 8 3 4) hY2 (by simpa using ar.lt hil (show 3 + 4 < 8 by decide)) ?_
            intro y3 hY3 y3m y3s
            exact hK ((A1, a1), (A2, a2), (A3, a3)) _ _ ⟨rfl, rfl, rfl, rfl, rfl, trivial⟩ (fin6 hnd o1 e1 hm1 k1 o2 e2 hm2 k2 o3 e3 hm3 k3 (both (both y1m y2m) y3m) hY3)
        · refine Exists.intro Do (Exists.intro y.code.maps.length (Exists.intro do_ (And.intro (cellA (adr3 g i 8 3 4) hB1 (hat 7 _ rfl)) ?_)))
          refine Exists.intro (fun _ => True) (And.intro (fun _ h => h) (And.intro trivial ?_))
          refine Exists.intro Ho (Exists.intro y.code.hands.length (Exists.intro ho (And.intro (cellA (adr3 g i 8 3 3) hB1 (hat 6 _ rfl)) ?_)))
          refine Exists.intro (fun _ => True) (And.intro (fun _ h => h) (And.intro trivial ?_))
          refine call_ (CloneHnd_ok _ y.code.hands (fun b => w.heap.size ≤ b) z1 (LRep.mod hndOk (by decide) l2 mo1) hy.2.1) ?_
          rintro e z2 ⟨A2, a2, ts2, rfl, o2, e2, hm2, k2⟩
          refine ⟨_, rfl, ?_⟩
          have mo2 := both mo1 k2.mod
          have hB2 := k2.blk hB1
          refine Exists.intro (fun _ => True) (And.intro (fun _ h => h) (And.intro trivial ?_))
          refine call_ (CloneMp_ok _ y.code.maps (fun b => w.heap.size ≤ b) z2 (LRep.mod mpOk (by decide) l3 mo2) hy.2.2.1) ?_
          rintro e z3 ⟨A3, a3, ts3, rfl, o3, e3, hm3, k3⟩
          refine ⟨_, rfl, ?_⟩
          have mo3 := both mo2 k3.mod
          have hB3 := k3.blk hB2
          refine Exists.intro (fun _ => True) (And.intro (fun _ h => h) (And.intro trivial ?_))
          refine And.intro (exA (adr3 g i 8 3 2) hB3 (ar.lt hil (show 3 + 2 < 8 by decide))) (And.intro (fzA (adr3 g i 8 3 2) hB3) (force_ ?_))
          refine stA (adr3 g i 8 3 2) hB3 (ar.lt hil (show 3 + 2 < 8 by decide)) ?_
          intro y1 hY1 y1m y1s
          refine Exists.intro (fun _ => True) (And.intro (fun _ h => h) (And.intro trivial ?_))
          refine And.intro (exA (adr3 g i 8 3 3) hY1 (by simpa using ar.lt hil (show 3 + 3 < 8 by decide))) (And.intro (fzA (adr3 g i 8 3 3) hY1) (force_ ?_))
          refine stA (adr3 g i 8 3 3) hY1 (by simpa using ar.lt hil (show 3 + 3 < 8 by decide)) ?_
          intro y2 hY2 y2m y2s
          refine Exists.intro (fun _ => True) (And.intro (fun _ h => h) (And.intro trivial ?_))
          refine And.intro (exA (adr3 g i 8 3 4) hY2 (by simpa using ar.lt hil (show 3 + 4 < 8 by decide))) (And.intro (fzA (adr3 g i 8 3 4) hY2) (force_ ?_))
          refine stA (adr3 g i 8 3 4) hY2 (by simpa using ar.lt hil (show 3 + 4 < 8 by decide)) ?_
          intro y3 hY3 y3m y3s
          exact hK ((A1, a1), (A2, a2), (A3, a3)) _ _ ⟨rfl, rfl, rfl, rfl, rfl, trivial⟩ (fin6 hnd o1 e1 hm1 k1 o2 e2 hm2 k2 o3 e3 hm3 k3 (both (both y1m y2m) y3m) hY3)
      · refine Exists.intro Ho (Exists.intro y.code.hands.length (Exists.intro ho (And.intro (cellA (adr3 g i 8 3 3) hB0 (hat 6 _ rfl)) ?_)))
        refine Exists.intro (fun _ => True) (And.intro (fun _ h => h) (And.intro trivial ?_))
        refine And.intro ?_ ?_
        · refine call_ (CloneU8_ok _ y.code.bytes (fun b => w.heap.size ≤ b) wl.drew (LRep.mod u8Ok (by decide) l1 mo0) hy.1) ?_
          rintro e z1 ⟨A1, a1, ts1, rfl, o1, e1, hm1, k1⟩
          refine ⟨_, rfl, ?_⟩
          have mo1 := both mo0 k1.mod
          have hB1 := k1.blk hB0
          refine Exists.intro (fun _ => True) (And.intro (fun _ h => h) (And.intro trivial ?_))
          refine And.intro ?_ ?_
          · refine call_ (CloneHnd_ok _ y.code.hands (fun b => w.heap.size ≤ b) z1 (LRep.mod hndOk (by decide) l2 mo1) hy.2.1) ?_
            rintro e z2 ⟨A2, a2, ts2, rfl, o2, e2, hm2, k2⟩
            refine ⟨_, rfl, ?_⟩
            have mo2 := both mo1 k2.mod
            have hB2 := k2.blk hB1
            refine Exists.intro (fun _ => True) (And.intro (fun _ h => h) (And.intro trivial ?_))
            refine Exists.intro Do (Exists.intro y.code.maps.length (Exists.intro do_ (And.intro (cellA (adr3 g i 8 3 4) hB2 (hat 7 _ rfl)) ?_)))
            refine Exists.intro (fun _ => True) (And.intro (fun _ h => h) (And.intro trivial ?_))
            refine call_ (CloneMp_ok _ y.code.maps (fun b => w.heap.size ≤ b) z2 (LRep.mod mpOk (by decide) l3 mo2) hy.2.2.1) ?_
            rintro e z3 ⟨A3, a3, ts3, rfl, o3, e3, hm3, k3⟩
            refine ⟨_, rfl, ?_⟩
            have mo3 := both mo2 k3.mod
            have hB3 := k3.blk hB2
            refine Exists.intro (fun _ => True) (And.intro (fun _ h => h) (And.intro trivial ?_))
            refine And.intro (exA (adr3 g i 8 3 2) hB3 (ar.lt hil (show 3 + 2 < 8 by decide))) (And.intro (fzA (adr3 g i 8 3 2) hB3) (force_ ?_))
            refine stA (adr3 g i 8 3 2) hB3 (ar.lt hil (show 3 + 2 < 8 by decide)) ?_
            intro y1 hY1 y1m y1s
            refine Exists.intro (fun _ => True) (And.intro (fun _ h => h) (And.intro trivial ?_))
            refine And.intro (exA (adr3 g i 8 3 3) hY1 (by simpa using ar.lt hil (show 3 + 3 < 8 by decide))) (And.intro (fzA (adr3 g i 8 3 3) hY1) (force_ ?_))
            refine stA (adr3 g i 8 3 3) hY1 (by simpa using ar.lt hil (show 3 + 3 < 8 by decide)) ?_
            intro y2 hY2 y2m y2s
            refine Exists.intro (fun _ => True) (And.intro (fun _ h => h) (And.intro trivial ?_))
            refine And.intro (exA (adr3 g i 8 3 4) hY2 (by simpa using ar.lt hil (show 3 + 4 < 8 by decide))) (And.intro (fzA (adr3 g i 8 3 4) hY2) (force_ ?_))
            refine stA (adr3 g i 8 3 4) hY2 (by simpa using ar.lt hil (show 3 + 4 < 8 by decide)) ?_
            intro y3 hY3 y3m y3s
            exact hK ((A1, a1), (A2, a2), (A3, a3)) _ _ ⟨rfl, rfl, rfl, rfl, rfl, trivial⟩ (fin6 hnd o1 e1 hm1 k1 o2 e2 hm2 k2 o3 e3 hm3 k3 (both (both y1m y2m) y3m) hY3)
          · refine Exists.intro Do (Exists.intro y.code.maps.length (Exists.intro do_ (And.intro (cellA (adr3 g i 8 3 4) hB1 (hat 7 _ rfl)) ?_)))
            refine Exists.intro (fun _ => True) (And.intro (fun _ h => h) (And.intro trivial ?_))
            refine call_ (CloneHnd_ok _ y.code.hands (fun b => w.heap.size ≤ b) z1 (LRep.mod hndOk (by decide) l2 mo1) hy.2.1) ?_
            rintro e z2 ⟨A2, a2, ts2, rfl, o2, e2, hm2, k2⟩
            refine ⟨_, rfl, ?_⟩
            have mo2 := both mo1 k2.mod
            have hB2 := k2.blk hB1
            refine Exists.intro (fun _ => True) (And.intro (fun _ h => h) (And.intro trivial ?_))
            refine call_ (CloneMp_ok _ y.code.maps (fun b => w.heap.size ≤ b) z2 (LRep.mod mpOk (by decide) l3 mo2) hy.2.2.1) ?_
            rintro e z3 ⟨A3, a3, ts3, rfl, o3, e3, hm3, k3⟩
            refine ⟨_, rfl, ?_⟩
            have mo3 := both mo2 k3.mod
            have hB3 := k3.blk hB2
            refine Exists.intro (fun _ => True) (And.intro (fun _ h => h) (And.intro trivial ?_))
            refine And.intro (exA (adr3 g i 8 3 2) hB3 (ar.lt hil (show 3 + 2 < 8 by decide))) (And.intro (fzA (adr3 g i 8 3 2) hB3) (force_ ?_))
            refine stA (adr3 g i 8 3 2) hB3 (ar.lt hil (show 3 + 2 < 8 by decide)) ?_
            intro y1 hY1 y1m y1s
            refine Exists.intro (fun _ => True) (And.intro (fun _ h => h) (And.intro trivial ?_))
            refine And.intro (exA (adr3 g i 8 3 3) hY1 (by simpa using ar.lt hil (show 3 + 3 < 8 by decide))) (And.intro (fzA (adr3 g i 8 3 3) hY1) (force_ ?_))
            refine stA (adr3 g i 8 3 3) hY1 (by simpa using ar.lt hil (show 3 + 3 < 8 by decide)) ?_
            intro y2 hY2 y2m y2s
            refine Exists.intro (fun _ => True) (And.intro (fun _ h => h) (And.intro trivial ?_))
            refine And.intro (exA (adr3 g i 8 3 4) hY2 (by simpa using ar.lt hil (show 3 + 4 < 8 by decide))) (And.intro (fzA (adr3 g i 8 3 4) hY2) (force_ ?_))
            refine stA (adr3 g i 8 3 4) hY2 (by simpa using ar.lt hil (show 3 + 4 < 8 by decide)) ?_
            intro y3 hY3 y3m y3s
            exact hK ((A1, a1), (A2, a2), (A3, a3)) _ _ ⟨rfl, rfl, rfl, rfl, rfl, trivial⟩ (fin6 hnd o1 e1 hm1 k1 o2 e2 hm2 k2 o3 e3 hm3 k3 (both (both y1m y2m) y3m) hY3)
        · refine Exists.intro Do (Exists.intro y.code.maps.length (Exists.intro do_ (And.intro (cellA (adr3 g i 8 3 4) hB0 (hat 7 _ rfl)) ?_)))
          refine Exists.intro (fun _ => True) (And.intro (fun _ h => h) (And.intro trivial ?_))
          refine call_ (CloneU8_ok _ y.code.bytes (fun b => w.heap.size ≤ b) wl.drew (LRep.mod u8Ok (by decide) l1 mo0) hy.1) ?_
          rintro e z1 ⟨A1, a1, ts1, rfl, o1, e1, hm1, k1⟩
          refine ⟨_, rfl, ?_⟩
          have mo1 := both mo0 k1.mod
          have hB1 := k1.blk hB0
          refine Exists.intro (fun _ => True) (And.intro (fun _ h => h) (And.intro trivial ?_))
          refine call_ (CloneHnd_ok _ y.code.hands (fun b => w.heap.size ≤ b) z1 (LRep.mod hndOk (by decide) l2 mo1) hy.2.1) ?_
          rintro e z2 ⟨A2, a2, ts2, rfl, o2, e2, hm2, k2⟩
          refine ⟨_, rfl, ?_⟩
          have mo2 := both mo1 k2.mod
          have hB2 := k2.blk hB1
          refine Exists.intro (fun _ => True) (And.intro (fun _ h => h) (And.intro trivial ?_))
          refine call_ (CloneMp_ok _ y.code.maps (fun b => w.heap.size ≤ b) z2 (LRep.mod mpOk (by decide) l3 mo2) hy.2.2.1) ?_
          rintro e z3 ⟨A3, a3, ts3, rfl, o3, e3, hm3, k3⟩
          refine ⟨_, rfl, ?_⟩
          have mo3 := both mo2 k3.mod
          have hB3 := k3.blk hB2
          refine Exists.intro (fun _ => True) (And.intro (fun _ h => h) (And.intro trivial ?_))
          refine And.intro (exA (adr3 g i 8 3 2) hB3 (ar.lt hil (show 3 + 2 < 8 by decide))) (And.intro (fzA (adr3 g i 8 3 2) hB3) (force_ ?_))
          refine stA (adr3 g i 8 3 2) hB3 (ar.lt hil (show 3 + 2 < 8 by decide)) ?_
          intro y1 hY1 y1m y1s
          refine Exists.intro (fun _ => True) (And.intro (fun _ h => h) (And.intro trivial ?_))
          refine And.intro (exA (adr3 g i 8 3 3) hY1 (by simpa using ar.lt hil (show 3 + 3 < 8 by decide))) (And.intro (fzA (adr3 g i 8 3 3) hY1) (force_ ?_))
          refine stA (adr3 g i 8 3 3) hY1 (by simpa using ar.lt hil (show 3 + 3 < 8 by decide)) ?_
          intro y2 hY2 y2m y2s
          refine Exists.intro (fun _ => True) (And.intro (fun _ h => h) (And.intro trivial ?_))
          refine And.intro (exA (adr3 g i 8 3 4) hY2 (by simpa using ar.lt hil (show 3 + 4 < 8 by decide))) (And.intro (fzA (adr3 g i 8 3 4) hY2) (force_ ?_))
          refine stA (adr3 g i 8 3 4) hY2 (by simpa using ar.lt hil (show 3 + 4 < 8 by decide)) ?_
          intro y3 hY3 y3m y3s
          exact hK ((A1, a1), (A2, a2), (A3, a3)) _ _ ⟨rfl, rfl, rfl, rfl, rfl, trivial⟩ (fin6 hnd o1 e1 hm1 k1 o2 e2 hm2 k2 o3 e3 hm3 k3 (both (both y1m y2m) y3m) hY3)
      · refine Exists.intro Do (Exists.intro y.code.maps.length (Exists.intro do_ (And.intro (cellA (adr3 g i 8 3 4) hB0 (hat 7 _ rfl)) ?_)))
        refine Exists.intro (fun _ => True) (And.intro (fun _ h => h) (And.intro trivial ?_))
        refine And.intro ?_ ?_
        · refine call_ (CloneU8_ok _ y.code.bytes (fun b => w.heap.size ≤ b) wl.drew (LRep.mod u8Ok (by decide) l1 mo0) hy.1) ?_
          rintro e z1 ⟨A1, a1, ts1, rfl, o1, e1, hm1, k1⟩
          refine ⟨_, rfl, ?_⟩
          have mo1 := both mo0 k1.mod
          have hB1 := k1.blk hB0
          refine Exists.intro (fun _ => True) (And.intro (fun _ h => h) (And.intro trivial ?_))
          refine Exists.intro Ho (Exists.intro y.code.hands.length (Exists.intro ho (And.intro (cellA (adr3 g i 8 3 3) hB1 (hat 6 _ rfl)) ?_)))
          refine Exists.intro (fun _ => True) (And.intro (fun _ h => h) (And.intro trivial ?_))
          refine call_ (CloneHnd_ok _ y.code.hands (fun b => w.heap.size ≤ b) z1 (LRep.mod hndOk (by decide) l2 mo1) hy.2.1) ?_
          rintro e z2 ⟨A2, a2, ts2, rfl, o2, e2, hm2, k2⟩
          refine ⟨_, rfl, ?_⟩
          have mo2 := both mo1 k2.mod
          have hB2 := k2.blk hB1
          refine Exists.intro (fun _ => True) (And.intro (fun _ h => h) (And.intro trivial ?_))
          refine call_ (CloneMp_ok _ y.code.maps (fun b => w.heap.size ≤ b) z2 (LRep.mod mpOk (by decide) l3 mo2) hy.2.2.1) ?_
          rintro e z3 ⟨A3, a3, ts3, rfl, o3, e3, hm3, k3⟩
          refine ⟨_, rfl, ?_⟩
          have mo3 := both mo2 k3.mod
          have hB3 := k3.blk hB2
          refine Exists.intro (fun _ => True) (And.intro (fun _ h => h) (And.intro trivial ?_))
          refine And.intro (exA (adr3 g i 8 3 2) hB3 (ar.lt hil (show 3 + 2 < 8 by decide))) (And.intro (fzA (adr3 g i 8 3 2) hB3) (force_ ?_))
          refine stA (adr3 g i 8 3 2) hB3 (ar.lt hil (show 3 + 2 < 8 by decide)) ?_
          intro y1 hY1 y1m y1s
          refine Exists.intro (fun _ => True) (And.intro (fun _ h => h) (And.intro trivial ?_))
          refine And.intro (exA (adr3 g i 8 3 3) hY1 (by simpa using ar.lt hil (show 3 + 3 < 8 by decide))) (And.intro (fzA (adr3 g i 8 3 3) hY1) (force_ ?_))
          refine stA (adr3 g i 8 3 3) hY1 (by simpa using ar.lt hil (show 3 + 3 < 8 by decide)) ?_
          intro y2 hY2 y2m y2s
          refine Exists.intro (fun _ => True) (And.intro (fun _ h => h) (And.intro trivial ?_))
          refine And.intro (exA (adr3 g i 8 3 4) hY2 (by simpa using ar.lt hil (show 3 + 4 < 8 by decide))) (And.intro (fzA (adr3 g i 8 3 4) hY2) (force_ ?_))
          refine stA (adr3 g i 8 3 4) hY2 (by simpa using ar.lt hil (show 3 + 4 < 8 by decide)) ?_
          intro y3 hY3 y3m y3s
          exact hK ((A1, a1), (A2, a2), (A3, a3)) _ _ ⟨rfl, rfl, rfl, rfl, rfl, trivial⟩ (fin6 hnd o1 e1 hm1 k1 o2 e2 hm2 k2 o3 e3 hm3 k3 (both (both y1m y2m) y3m) hY3)
        · refine Exists.intro Ho (Exists.intro y.code.hands.length (Exists.intro ho (And.intro (cellA (adr3 g i 8 3 3) hB0 (hat 6 _ rfl)) ?_)))
          refine Exists.intro (fun _ => True) (And.intro (fun _ h => h) (And.intro trivial ?_))
          refine call_ (CloneU8_ok _ y.code.bytes (fun b => w.heap.size ≤ b) wl.drew (LRep.mod u8Ok (by decide) l1 mo0) hy.1) ?_
          rintro e z1 ⟨A1, a1, ts1, rfl, o1, e1, hm1, k1⟩
          refine ⟨_, rfl, ?_⟩
          have mo1 := both mo0 k1.mod
          have hB1 := k1.blk hB0
          refine Exists.intro (fun _ => True) (And.intro (fun _ h => h) (And.intro trivial ?_))
          refine call_ (CloneHnd_ok _ y.code.hands (fun b => w.heap.size ≤ b) z1 (LRep.mod hndOk (by decide) l2 mo1) hy.2.1) ?_
          rintro e z2 ⟨A2, a2, ts2, rfl, o2, e2, hm2, k2⟩
          refine ⟨_, rfl, ?_⟩
          have mo2 := both mo1 k2.mod
          have hB2 := k2.blk hB1
          refine Exists.intro (fun _ => True) (And.intro (fun _ h => h) (And.intro trivial ?_))
          refine call_ (CloneMp_ok _ y.code.maps (fun b => w.heap.size ≤ b) z2 (LRep.mod mpOk (by decide) l3 mo2) hy.2.2.1) ?_
          rintro e z3 ⟨A3, a3, ts3, rfl, o3, e3, hm3, k3⟩
          refine ⟨_, rfl, ?_⟩
          have mo3 := both mo2 k3.mod
          have hB3 := k3.blk hB2
          refine Exists.intro (fun _ => True) (And.intro (fun _ h => h) (And.intro trivial ?_))
          refine And.intro (exA (adr3 g i 8 3 2) hB3 (ar.lt hil (show 3 + 2 < 8 by decide))) (And.intro (fzA (adr3 g i 8 3 2) hB3) (force_ ?_))
          refine stA (adr3 g i 8 3 2) hB3 (ar.lt hil (show 3 + 2 < 8 by decide)) ?_
          intro y1 hY1 y1m y1s
          refine Exists.intro (fun _ => True) (And.intro (fun _ h => h) (And.intro trivial ?_))
          refine And.intro (exA (adr3 g i 8 3 3) hY1 (by simpa using ar.lt hil (show 3 + 3 < 8 by decide))) (And.intro (fzA (adr3 g i 8 3 3) hY1) (force_ ?_))
          refine stA (adr3 g i 8 3 3) hY1 (by simpa using ar.lt hil (show 3 + 3 < 8 by decide)) ?_
          intro y2 hY2 y2m y2s
          refine Exists.intro (fun _ => True) (And.intro (fun _ h => h) (And.intro trivial ?_))
          refine And.intro (exA (adr3 g i 8 3 4) hY2 (by simpa using ar.lt hil (show 3 + 4 < 8 by decide))) (And.intro (fzA (adr3 g i 8 3 4) hY2) (force_ ?_))
          refine stA (adr3 g i 8 3 4) hY2 (by simpa using ar.lt hil (show 3 + 4 < 8 by decide)) ?_
          intro y3 hY3 y3m y3s
          exact hK ((A1, a1), (A2, a2), (A3, a3)) _ _ ⟨rfl, rfl, rfl, rfl, rfl, trivial⟩ (fin6 hnd o1 e1 hm1 k1 o2 e2 hm2 k2 o3 e3 hm3 k3 (both (both y1m y2m) y3m) hY3)
    · refine Exists.intro Ho (Exists.intro y.code.hands.length (Exists.intro ho (And.intro (cellA (adr3 g i 8 3 3) hB0 (hat 6 _ rfl)) ?_)))
      refine Exists.intro (fun _ => True) (And.intro (fun _ h => h) (And.intro trivial ?_))
      refine And.intro ?_ ?_
      · refine Exists.intro Bo (Exists.intro y.code.bytes.length (Exists.intro bo (And.intro (cellA (adr3 g i 8 3 2) hB0 (hat 5 _ rfl)) ?_)))
        refine Exists.intro (fun _ => True) (And.intro (fun _ h => h) (And.intro trivial ?_))
        refine And.intro ?_ ?_
        · refine call_ (CloneU8_ok _ y.code.bytes (fun b => w.heap.size ≤ b) wl.drew (LRep.mod u8Ok (by decide) l1 mo0) hy.1) ?_
          rintro e z1 ⟨A1, a1, ts1, rfl, o1, e1, hm1, k1⟩
          refine ⟨_, rfl, ?_⟩
          have mo1 := both mo0 k1.mod
          have hB1 := k1.blk hB0
          refine Exists.intro (fun _ => True) (And.intro (fun _ h => h) (And.intro trivial ?_))
          refine And.intro ?_ ?_
          · refine call_ (CloneHnd_ok _ y.code.hands (fun b => w.heap.size ≤ b) z1 (LRep.mod hndOk (by decide) l2 mo1) hy.2.1) ?_
            rintro e z2 ⟨A2, a2, ts2, rfl, o2, e2, hm2, k2⟩
            refine ⟨_, rfl, ?_⟩
            have mo2 := both mo1 k2.mod
            have hB2 := k2.blk hB1
            refine Exists.intro (fun _ => True) (And.intro (fun _ h => h) (And.intro trivial ?_))
            refine Exists.intro Do (Exists.intro y.code.maps.length (Exists.intro do_ (And.intro (cellA (adr3 g i 8 3 4) hB2 (hat 7 _ rfl)) ?_)))
            refine Exists.intro (fun _ => True) (And.intro (fun _ h => h) (And.intro trivial ?_))
            refine call_ (CloneMp_ok _ y.code.maps (fun b => w.heap.size ≤ b) z2 (LRep.mod mpOk (by decide) l3 mo2) hy.2.2.1) ?_
            rintro e z3 ⟨A3, a3, ts3, rfl, o3, e3, hm3, k3⟩
            refine ⟨_, rfl, ?_⟩
            have mo3 := both mo2 k3.mod
            have hB3 := k3.blk hB2
            refine Exists.intro (fun _ => True) (And.intro (fun _ h => h) (And.intro trivial ?_))
            refine And.intro (exA (adr3 g i 8 3 2) hB3 (ar.lt hil (show 3 + 2 < 8 by decide))) (And.intro (fzA (adr3 g i 8 3 2) hB3) (force_ ?_))
            refine stA (adr3 g i 8 3 2) hB3 (ar.lt hil (show 3 + 2 < 8 by decide)) ?_
            intro y1 hY1 y1m y1s
            refine Exists.intro (fun _ => True) (And.intro (fun _ h => h) (And.intro trivial ?_))
            refine And.intro (exA (adr3 g i 8 3 3) hY1 (by simpa using ar.lt hil (show 3 + 3 < 8 by decide))) (And.intro (fzA (adr3 g i 8 3 3) hY1) (force_ ?_))
            refine stA (adr3 g i 8 3 3) hY1 (by simpa using ar.lt hil (show 3 + 3 < 8 by decide)) ?_
            intro y2 hY2 y2m y2s
            refine Exists.intro (fun _ => True) (And.intro (fun _ h => h) (And.intro trivial ?_))
            refine And.intro (exA (adr3 g i 8 3 4) hY2 (by simpa using ar.lt hil (show 3 + 4 < 8 by decide))) (And.intro (fzA (adr3 g i 8 3 4) hY2) (force_ ?_))
            refine stA (adr3 g i 8 3 4) hY2 (by simpa using ar.lt hil (show 3 + 4 < 8 by decide)) ?_
            intro y3 hY3 y3m y3s
            exact hK ((A1, a1), (A2, a2), (A3, a3)) _ _ ⟨rfl, rfl, rfl, rfl, rfl, trivial⟩ (fin6 hnd o1 e1 hm1 k1 o2 e2 hm2 k2 o3 e3 hm3 k3 (both (both y1m y2m) y3m) hY3)
          · refine Exists.intro Do (Exists.intro y.code.maps.length (Exists.intro do_ (And.intro (cellA (adr3 g i 8 3 4) hB1 (hat 7 _ rfl)) ?_)))
            refine Exists.intro (fun _ => True) (And.intro (fun _ h => h) (And.intro trivial ?_))
            refine call_ (CloneHnd_ok _ y.code.hands (fun b => w.heap.size ≤ b) z1 (LRep.mod hndOk (by decide) l2 mo1) hy.2.1) ?_
            rintro e z2 ⟨A2, a2, ts2, rfl, o2, e2, hm2, k2⟩
            refine ⟨_, rfl, ?_⟩
            have mo2 := both mo1 k2.mod
            have hB2 := k2.blk hB1
            refine Exists.intro (fun _ => True) (And.intro (fun _ h => h) (And.intro trivial ?_))
            refine call_ (CloneMp_ok _ y.code.maps (fun b => w.heap.size ≤ b) z2 (LRep.mod mpOk (by decide) l3 mo2) hy.2.2.1) ?_
            rintro e z3 ⟨A3, a3, ts3, rfl, o3, e3, hm3, k3⟩
            refine ⟨_, rfl, ?_⟩
            have mo3 := both mo2 k3.mod
            have hB3 := k3.blk hB2
            refine Exists.intro (fun _ => True) (And.intro (fun _ h => h) (And.intro trivial ?_))
            refine And.intro (exA (adr3 g i 8 3 2) hB3 (ar.lt hil (show 3 + 2 < 8 by decide))) (And.intro (fzA (adr3 g i 8 3 2) hB3) (force_ ?_))
            refine stA (adr3 g i 8 3 2) hB3 (ar.lt hil (show 3 + 2 < 8 by decide)) ?_
            intro y1 hY1 y1m y1s
            refine Exists.intro (fun _ => True) (And.intro (fun _ h => h) (And.intro trivial ?_))
            refine And.intro (exA (adr3 g i 8 3 3) hY1 (by simpa using ar.lt hil (show 3 + 3 < 8 by decide))) (And.intro (fzA (adr3 g i 8 3 3) hY1) (force_ ?_))
            refine stA (adr3 g i 8 3 3) hY1 (by simpa using ar.lt hil (show 3 + 3 < 8 by decide)) ?_
            intro y2 hY2 y2m y2s
            refine Exists.intro (fun _ => True) (And.intro (fun _ h => h) (And.intro trivial ?_))
            refine And.intro (exA (adr3 g i 8 3 4) hY2 (by simpa using ar.lt hil (show 3 + 4 < 8 by decide))) (And.intro (fzA (adr3 g i 8 3 4) hY2) (force_ ?_))
            refine stA (adr3 g i 8 3 4) hY2 (by simpa using ar.lt hil (show 3 + 4 < 8 by decide)) ?_
            intro y3 hY3 y3m y3s
            exact hK ((A1, a1), (A2, a2), (A3, a3)) _ _ ⟨rfl, rfl, rfl, rfl, rfl, trivial⟩ (fin6 hnd o1 e1 hm1 k1 o2 e2 hm2 k2 o3 e3 hm3 k3 (both (both y1m y2m) y3m) hY3)
        · refine Exists.intro Do (Exists.intro y.code.maps.length (Exists.intro do_ (And.intro (cellA (adr3 g i 8 3 4) hB0 (hat 7 _ rfl)) ?_)))
          refine Exists.intro (fun _ => True) (And.intro (fun _ h => h) (And.intro trivial ?_))
          refine call_ (CloneU8_ok _ y.code.bytes (fun b => w.heap.size ≤ b) wl.drew (LRep.mod u8Ok (by decide) l1 mo0) hy.1) ?_
          rintro e z1 ⟨A1, a1, ts1, rfl, o1, e1, hm1, k1⟩
          refine ⟨_, rfl, ?_⟩
          have mo1 := both mo0 k1.mod
          have hB1 := k1.blk hB0
          refine Exists.intro (fun _ => True) (And.intro (fun _ h => h) (And.intro trivial ?_))
          refine call_ (CloneHnd_ok _ y.code.hands (fun b => w.heap.size ≤ b) z1 (LRep.mod hndOk (by decide) l2 mo1) hy.2.1) ?_
          rintro e z2 ⟨A2, a2, ts2, rfl, o2, e2, hm2, k2⟩
          refine ⟨_, rfl, ?_⟩
          have mo2 := both mo1 k2.mod
          have hB2 := k2.blk hB1
          refine Exists.intro (fun _ => True) (And.intro (fun _ h => h) (And.intro trivial ?_))
          refine call_ (CloneMp_ok _ y.code.maps (fun b => w.heap.size ≤ b) z2 (LRep.mod mpOk (by decide) l3 mo2) hy.2.2.1) ?_
          rintro e z3 ⟨A3, a3, ts3, rfl, o3, e3, hm3, k3⟩
          refine ⟨_, rfl, ?_⟩
          have mo3 := both mo2 k3.mod
          have hB3 := k3.blk hB2
          refine Exists.intro (fun _ => True) (And.intro (fun _ h => h) (And.intro trivial ?_))
          refine And.intro (exA (adr3 g i 8 3 2) hB3 (ar.lt hil (show 3 + 2 < 8 by decide))) (And.intro (fzA (adr3 g i 8 3 2) hB3) (force_ ?_))
          refine stA (adr3 g i 8 3 2) hB3 (ar.lt hil (show 3 + 2 < 8 by decide)) ?_
          intro y1 hY1 y1m y1s
          refine Exists.intro (fun _ => True) (And.intro (fun _ h => h) (And.intro trivial ?_))
          refine And.intro (exA (adr3 g i 8 3 3) hY1 (by simpa using ar.lt hil (show 3 + 3 < 8 by decide))) (And.intro (fzA (adr3 g i 8 3 3) hY1) (force_ ?_))
          refine stA (adr3 g i 8 3 3) hY1 (by simpa using ar.lt hil (show 3 + 3 < 8 by decide)) ?_
          intro y2 hY2 y2m y2s
          refine Exists.intro (fun _ => True) (And.intro (fun _ h => h) (And.intro trivial ?_))
          refine And.intro (exA (adr3 g i 8 3 4) hY2 (by simpa using ar.lt hil (show 3 + 4 < 8 by decide))) (And.intro (fzA (adr3 g i 8 3 4) hY2) (force_ ?_))
          refine stA (adr3 g i 8 3 4) hY2 (by simpa using ar.lt hil (show 3 + 4 < 8 by decide)) ?_
          intro y3 hY3 y3m y3s
          exact hK ((A1, a1), (A2, a2), (A3, a3)) _ _ ⟨rfl, rfl, rfl, rfl, rfl, trivial⟩ (fin6 hnd o1 e1 hm1 k1 o2 e2 hm2 k2 o3 e3 hm3 k3 (both (both y1m y2m) y3m) hY3)
      · refine Exists.intro Do (Exists.intro y.code.maps.length (Exists.intro do_ (And.intro (cellA (adr3 g i 8 3 4) hB0 (hat 7 _ rfl)) ?_)))
        refine Exists.intro (fun _ => True) (And.intro (fun _ h => h) (And.intro trivial ?_))
        refine Exists.intro Bo (Exists.intro y.code.bytes.length (Exists.intro bo (And.intro (cellA (adr3 g i 8 3 2) hB0 (hat 5 _ rfl)) ?_)))
        refine Exists.intro (fun _ => True) (And.intro (fun _ h => h) (And.intro trivial ?_))
        refine call_ (CloneU8_ok _ y.code.bytes (fun b => w.heap.size ≤ b) wl.drew (LRep.mod u8Ok (by decide) l1 mo0) hy.1) ?_
        rintro e z1 ⟨A1, a1, ts1, rfl, o1, e1, hm1, k1⟩
        refine ⟨_, rfl, ?_⟩
        have mo1 := both mo0 k1.mod
        have hB1 := k1.blk hB0
        refine Exists.intro (fun _ => True) (And.intro (fun _ h => h) (And.intro trivial ?_))
        refine call_ (CloneHnd_ok _ y.code.hands (fun b => w.heap.size ≤ b) z1 (LRep.mod hndOk (by decide) l2 mo1) hy.2.1) ?_
        rintro e z2 ⟨A2, a2, ts2, rfl, o2, e2, hm2, k2⟩
        refine ⟨_, rfl, ?_⟩
        have mo2 := both mo1 k2.mod
        have hB2 := k2.blk hB1
        refine Exists.intro (fun _ => True) (And.intro (fun _ h => h) (And.intro trivial ?_))
        refine call_ (CloneMp_ok _ y.code.maps (fun b => w.heap.size ≤ b) z2 (LRep.mod mpOk (by decide) l3 mo2) hy.2.2.1) ?_
        rintro e z3 ⟨A3, a3, ts3, rfl, o3, e3, hm3, k3⟩
        refine ⟨_, rfl, ?_⟩
        have mo3 := both mo2 k3.mod
        have hB3 := k3.blk hB2
        refine Exists.intro (fun _ => True) (And.intro (fun _ h => h) (And.intro trivial ?_))
        refine And.intro (exA (adr3 g i 8 3 2) hB3 (ar.lt hil (show 3 + 2 < 8 by decide))) (And.intro (fzA (adr3 g i 8 3 2) hB3) (force_ ?_))
        refine stA (adr3 g i 8 3 2) hB3 (ar.lt hil (show 3 + 2 < 8 by decide)) ?_
        intro y1 hY1 y1m y1s
        refine Exists.intro (fun _ => True) (And.intro (fun _ h => h) (And.intro trivial ?_))
        refine And.intro (exA (adr3 g i 8 3 3) hY1 (by simpa using ar.lt hil (show 3 + 3 < 8 by decide))) (And.intro (fzA (adr3 g i 8 3 3) hY1) (force_ ?_))
        refine stA (adr3 g i 8 3 3) hY1 (by simpa using ar.lt hil (show 3 + 3 < 8 by decide)) ?_
        intro y2 hY2 y2m y2s
        refine Exists.intro (fun _ => True) (And.intro (fun _ h => h) (And.intro trivial ?_))
        refine And.intro (exA (adr3 g i 8 3 4) hY2 (by simpa using ar.lt hil (show 3 + 4 < 8 by decide))) (And.intro (fzA (adr3 g i 8 3 4) hY2) (force_ ?_))
        refine stA (adr3 g i 8 3 4) hY2 (by simpa using ar.lt hil (show 3 + 4 < 8 by decide)) ?_
        intro y3 hY3 y3m y3s
        exact hK ((A1, a1), (A2, a2), (A3, a3)) _ _ ⟨rfl, rfl, rfl, rfl, rfl, trivial⟩ (fin6 hnd o1 e1 hm1 k1 o2 e2 hm2 k2 o3 e3 hm3 k3 (both (both y1m y2m) y3m) hY3)
    · refine Exists.intro Do (Exists.intro y.code.maps.length (Exists.intro do_ (And.intro (cellA (adr3 g i 8 3 4) hB0 (hat 7 _ rfl)) ?_)))
      refine Exists.intro (fun _ => True) (And.intro (fun _ h => h) (And.intro trivial ?_))
      refine And.intro ?_ ?_
      · refine Exists.intro Bo (Exists.intro y.code.bytes.length (Exists.intro bo (And.intro (cellA (adr3 g i 8 3 2) hB0 (hat 5 _ rfl)) ?_)))
        refine Exists.intro (fun _ => True) (And.intro (fun _ h => h) (And.intro trivial ?_))
        refine And.intro ?_ ?_
        · refine call_ (CloneU8_ok _ y.code.bytes (fun b => w.heap.size ≤ b) wl.drew (LRep.mod u8Ok (by decide) l1 mo0) hy.1) ?_
          rintro e z1 ⟨A1, a1, ts1, rfl, o1, e1, hm1, k1⟩
          refine ⟨_, rfl, ?_⟩
          have mo1 := both mo0 k1.mod
          have hB1 := k1.blk hB0
          refine Exists.intro (fun _ => True) (And.intro (fun _ h => h) (And.intro trivial ?_))
          refine Exists.intro Ho (Exists.intro y.code.hands.length (Exists.intro ho (And.intro (cellA (adr3 g i 8 3 3) hB1 (hat 6 _ rfl)) ?_)))
          refine Exists.intro (fun _ => True) (And.intro (fun _ h => h) (And.intro trivial ?_))
          refine call_ (CloneHnd_ok _ y.code.hands (fun b => w.heap.size ≤ b) z1 (LRep.mod hndOk (by decide) l2 mo1) hy.2.1) ?_
          rintro e z2 ⟨A2, a2, ts2, rfl, o2, e2, hm2, k2⟩
          refine ⟨_, rfl, ?_⟩
          have mo2 := both mo1 k2.mod
          have hB2 := k2.blk hB1
          refine Exists.intro (fun _ => True) (And.intro (fun _ h => h) (And.intro trivial ?_))
          refine call_ (CloneMp_ok _ y.code.maps (fun b => w.heap.size ≤ b) z2 (LRep.mod mpOk (by decide) l3 mo2) hy.2.2.1) ?_
          rintro e z3 ⟨A3, a3, ts3, rfl, o3, e3, hm3, k3⟩
          refine ⟨_, rfl, ?_⟩
          have mo3 := both mo2 k3.mod
          have hB3 := k3.blk hB2
          refine Exists.intro (fun _ => True) (And.intro (fun _ h => h) (And.intro trivial ?_))
          refine And.intro (exA (adr3 g i 8 3 2) hB3 (ar.lt hil (show 3 + 2 < 8 by decide))) (And.intro (fzA (adr3 g i 8 3 2) hB3) (force_ ?_))
          refine stA (adr3 g i 8 3 2) hB3 (ar.lt hil (show 3 + 2 < 8 by decide)) ?_
          intro y1 hY1 y1m y1s
          refine Exists.intro (fun _ => True) (And.intro (fun _ h => h) (And.intro trivial ?_))
          refine And.intro (exA (adr3 g i 8 3 3) hY1 (by simpa using ar.lt hil (show 3 + 3 < 8 by decide))) (And.intro (fzA (adr3 g i 8 3 3) hY1) (force_ ?_))
          refine stA (adr3 g i 8 3 3) hY1 (by simpa using ar.lt hil (show 3 + 3 < 8 by decide)) ?_
          intro y2 hY2 y2m y2s
          refine Exists.intro (fun _ => True) (And.intro (fun _ h => h) (And.intro trivial ?_))
          refine And.intro (exA (adr3 g i 8 3 4) hY2 (by simpa using ar.lt hil (show 3 + 4 < 8 by decide))) (And.intro (fzA (adr3 g i 8 3 4) hY2) (force_ ?_))
          refine stA (adr3 g i 8 3 4) hY2 (by simpa using ar.lt hil (show 3 + 4 < 8 by decide)) ?_
          intro y3 hY3 y3m y3s
          exact hK ((A1, a1), (A2, a2), (A3, a3)) _ _ ⟨rfl, rfl, rfl, rfl, rfl, trivial⟩ (fin6 hnd o1 e1 hm1 k1 o2 e2 hm2 k2 o3 e3 hm3 k3 (both (both y1m y2m) y3m) hY3)
        · refine Exists.intro Ho (Exists.intro y.code.hands.length (Exists.intro ho (And.intro (cellA (adr3 g i 8 3 3) hB0 (hat 6 _ rfl)) ?_)))
          refine Exists.intro (fun _ => True) (And.intro (fun _ h => h) (And.intro trivial ?_))
          refine call_ (CloneU8_ok _ y.code.bytes (fun b => w.heap.size ≤ b) wl.drew (LRep.mod u8Ok (by decide) l1 mo0) hy.1) ?_
          rintro e z1 ⟨A1, a1, ts1, rfl, o1, e1, hm1, k1⟩
          refine ⟨_, rfl, ?_⟩
          have mo1 := both mo0 k1.mod
          have hB1 := k1.blk hB0
          refine Exists.intro (fun _ => True) (And.intro (fun _ h => h) (And.intro trivial ?_))
          refine call_ (CloneHnd_ok _ y.code.hands (fun b => w.heap.size ≤ b) z1 (LRep.mod hndOk (by decide) l2 mo1) hy.2.1) ?_
          rintro e z2 ⟨A2, a2, ts2, rfl, o2, e2, hm2, k2⟩
          refine ⟨_, rfl, ?_⟩
          have mo2 := both mo1 k2.mod
          have hB2 := k2.blk hB1
          refine Exists.intro (fun _ => True) (And.intro (fun _ h => h) (And.intro trivial ?_))
          refine call_ (CloneMp_ok _ y.code.maps (fun b => w.heap.size ≤ b) z2 (LRep.mod mpOk (by decide) l3 mo2) hy.2.2.1) ?_
          rintro e z3 ⟨A3, a3, ts3, rfl, o3, e3, hm3, k3⟩
          refine ⟨_, rfl, ?_⟩
          have mo3 := both mo2 k3.mod
          have hB3 := k3.blk hB2
          refine Exists.intro (fun _ => True) (And.intro (fun _ h => h) (And.intro trivial ?_))
          refine And.intro (exA (adr3 g i 8 3 2) hB3 (ar.lt hil (show 3 + 2 < 8 by decide))) (And.intro (fzA (adr3 g i 8 3 2) hB3) (force_ ?_))
          refine stA (adr3 g i 8 3 2) hB3 (ar.lt hil (show 3 + 2 < 8 by decide)) ?_
          intro y1 hY1 y1m y1s
          refine Exists.intro (fun _ => True) (And.intro (fun _ h => h) (And.intro trivial ?_))
          refine And.intro (exA (adr3 g i 8 3 3) hY1 (by simpa using ar.lt hil (show 3 + 3 < 8 by decide))) (And.intro (fzA (adr3 g i 8 3 3) hY1) (force_ ?_))
          refine stA (adr3 g i 8 3 3) hY1 (by simpa using ar.lt hil (show 3 + 3 < 8 by decide)) ?_
          intro y2 hY2 y2m y2s
          refine Exists.intro (fun _ => True) (And.intro (fun _ h => h) (And.intro trivial ?_))
          refine And.intro (exA (adr3 g i 8 3 4) hY2 (by simpa using ar.lt hil (show 3 + 4 < 8 by decide))) (And.intro (fzA (adr3 g i 8 3 4) hY2) (force_ ?_))
          refine stA (adr3 g i 8 3 4) hY2 (by simpa using ar.lt hil (show 3 + 4 < 8 by decide)) ?_
          intro y3 hY3 y3m y3s
          exact hK ((A1, a1), (A2, a2), (A3, a3)) _ _ ⟨rfl, rfl, rfl, rfl, rfl, trivial⟩ (fin6 hnd o1 e1 hm1 k1 o2 e2 hm2 k2 o3 e3 hm3 k3 (both (both y1m y2m) y3m) hY3)
      · refine Exists.intro Ho (Exists.intro y.code.hands.length (Exists.intro ho (And.intro (cellA (adr3 g i 8 3 3) hB0 (hat 6 _ rfl)) ?_)))
        refine Exists.intro (fun _ => True) (And.intro (fun _ h => h) (And.intro trivial ?_))
        refine Exists.intro Bo (Exists.intro y.code.bytes.length (Exists.intro bo (And.intro (cellA (adr3 g i 8 3 2) hB0 (hat 5 _ rfl)) ?_)))
        refine Exists.intro (fun _ => True) (And.intro (fun _ h => h) (And.intro trivial ?_))
        refine call_ (CloneU8_ok _ y.code.bytes (fun b => w.heap.size ≤ b) wl.drew (LRep.mod u8Ok (by decide) l1 mo0) hy.1) ?_
        rintro e z1 ⟨A1, a1, ts1, rfl, o1, e1, hm1, k1⟩
        refine ⟨_, rfl, ?_⟩
        have mo1 := both mo0 k1.mod
        have hB1 := k1.blk hB0
        refine Exists.intro (fun _ => True) (And.intro (fun _ h => h) (And.intro trivial ?_))
        refine call_ (CloneHnd_ok _ y.code.hands (fun b => w.heap.size ≤ b) z1 (LRep.mod hndOk (by decide) l2 mo1) hy.2.1) ?_
        rintro e z2 ⟨A2, a2, ts2, rfl, o2, e2, hm2, k2⟩
        refine ⟨_, rfl, ?_⟩
        have mo2 := both mo1 k2.mod
        have hB2 := k2.blk hB1
        refine Exists.intro (fun _ => True) (And.intro (fun _ h => h) (And.intro trivial ?_))
        refine call_ (CloneMp_ok _ y.code.maps (fun b => w.heap.size ≤ b) z2 (LRep.mod mpOk (by decide) l3 mo2) hy.2.2.1) ?_
        rintro e z3 ⟨A3, a3, ts3, rfl, o3, e3, hm3, k3⟩
        refine ⟨_, rfl, ?_⟩
        have mo3 := both mo2 k3.mod
        have hB3 := k3.blk hB2
        refine Exists.intro (fun _ => True) (And.intro (fun _ h => h) (And.intro trivial ?_))
        refine And.intro (exA (adr3 g i 8 3 2) hB3 (ar.lt hil (show 3 + 2 < 8 by decide))) (And.intro (fzA (adr3 g i 8 3 2) hB3) (force_ ?_))
        refine stA (adr3 g i 8 3 2) hB3 (ar.lt hil (show 3 + 2 < 8 by decide)) ?_
        intro y1 hY1 y1m y1s
        refine Exists.intro (fun _ => True) (And.intro (fun _ h => h) (And.intro trivial ?_))
        refine And.intro (exA (adr3 g i 8 3 3) hY1 (by simpa using ar.lt hil (show 3 + 3 < 8 by decide))) (And.intro (fzA (adr3 g i 8 3 3) hY1) (force_ ?_))
        refine stA (adr3 g i 8 3 3) hY1 (by simpa using ar.lt hil (show 3 + 3 < 8 by decide)) ?_
        intro y2 hY2 y2m y2s
        refine Exists.intro (fun _ => True) (And.intro (fun _ h => h) (And.intro trivial ?_))
        refine And.intro (exA (adr3 g i 8 3 4) hY2 (by simpa using ar.lt hil (show 3 + 4 < 8 by decide))) (And.intro (fzA (adr3 g i 8 3 4) hY2) (force_ ?_))
        refine stA (adr3 g i 8 3 4) hY2 (by simpa using ar.lt hil (show 3 + 4 < 8 by decide)) ?_
        intro y3 hY3 y3m y3s
        exact hK ((A1, a1), (A2, a2), (A3, a3)) _ _ ⟨rfl, rfl, rfl, rfl, rfl, trivial⟩ (fin6 hnd o1 e1 hm1 k1 o2 e2 hm2 k2 o3 e3 hm3 k3 (both (both y1m y2m) y3m) hY3)
  rintro ⟨⟨B1, b1⟩, ⟨H1, h1⟩, ⟨D1, cD⟩⟩ w3 fr3 ⟨arr3, us0, q, hb3, ar3, m3, hq1, hq2, lB, lH, ownD, eus0, hus0⟩
  dsimp only at hb3 ar3 lB lH ownD
  have hz3 := m3.size
  have hat3 := (ar3.at_ i _ (get_set hti)).2
  dsimp only at hat3
  -- what is left behind, whatever became of the maps
  have fin : ∀ wz, w3.heap.size ≤ wz.heap.size → Mod (fun b => q ≤ b) w3 wz → LO 49 3 mpO wz (fun b => b < w.heap.size + 2 ∨ b = g) (.slice D1 y.code.maps.length cD) y.code.maps → ∃ arr ts, wz.heap[g]? = some (.cells arr 36 (0, 0)) ∧ AR arr 8 cM ts ∧ ts.map (·.2) = x.methods ∧ (∀ j u, ts[j]? = some u → if j < i + 1 then mthO wz (fun b => b < w.heap.size + 2 ∨ b = g) u.1 u.2 else mthR wz (fun b => w.heap.size ≤ b) u.1 u.2) ∧ Mod (fun b => b = g) w1 wz := by
    intro wz hzz mz lD
    have mlz : Mod (fun b => b = g) wl wz := Mod.trans m3 mz fun b hb e => by omega
    have hgw : g < w1.heap.size := hgl
    refine ⟨arr3, _, mz.blk hb3 (by omega), ar3, by rw [map_set hti]; exact ets, fun j u hu => ?_, both ml mlz⟩
    by_cases hji : j = i
    · subst hji
      rw [get_set hti] at hu
      cases hu
      rw [if_pos (Nat.lt_succ_self _)]
      have mz' : Mod (fun b => b < wl.heap.size ∨ q ≤ b) w3 wz := mz.mono fun b _ e => .inr e
      exact ⟨_, _, _, rfl, (lB.mod u8Ok (by decide) mz').weak u8Ok (fun b hb e => .inl (by omega)), (lH.mod hndOk (by decide) mz').weak hndOk (fun b hb e => .inl (by omega)), lD⟩
    · rw [ne_set hji] at hu
      have := hts j u hu
      by_cases hlt2 : j < i
      · rw [if_pos hlt2] at this
        rw [if_pos (by omega)]
        exact mthOOk.mod this (mlz.mono fun b _ e => .inr e)
      · rw [if_neg hlt2] at this
        rw [if_neg (by omega)]
        exact mthOk.mod this (mlz.mono fun b _ e => (show w.heap.size ≤ b by omega))
  refine seq_cut (σ := Unit) (fun _ => [(1, .pointer (some ⟨X, 0, none⟩)), (2, .pointer (some ⟨V, 0, none⟩)), (21, zi (x.methods.length : Int)), (22, zi (i : Int)), (4, .pointer (some (((⟨g, 0, none⟩ : Addr).add ((i : Int).toNat * 8)).add 3))), (58, zi (y.code.maps.length : Int)), (59, zi ((0 : Nat) : Int))]) (fun _ w' => w' = w3) ?_ ?_
  rotate_left
  · intro K1 hK1
    refine Exists.intro D1 (Exists.intro y.code.maps.length (Exists.intro cD (And.intro (cellA (adr3 g i 8 3 4) hb3 (hat3 7 _ rfl)) ?_)))
    exact hK1 () _ _ ⟨rfl, rfl, rfl, rfl, rfl, rfl, rfl, trivial⟩ rfl
  rintro _ wq3 frq3 hwq3
  obtain rfl := hwq3.symm
  by_cases hm0 : y.code.maps.length = 0
  · refine den_loop (σ := Nat) (fun k => [(1, .pointer (some ⟨X, 0, none⟩)), (2, .pointer (some ⟨V, 0, none⟩)), (21, zi (x.methods.length : Int)), (22, zi (i : Int)), (4, .pointer (some (((⟨g, 0, none⟩ : Addr).add ((i : Int).toNat * 8)).add 3))), (58, zi (y.code.maps.length : Int)), (59, zi (k : Int))]) (fun m k wk => k = 0 ∧ wk = w3) 0 0 ⟨rfl, rfl, rfl, rfl, rfl, rfl, rfl, trivial⟩ ⟨rfl, rfl⟩ ?_
    rintro m k wk frk ⟨rfl, hwk⟩
    obtain rfl := hwk.symm
    refine if_p (fun hlt => absurd (show ((0 : Nat) : Int) < (y.code.maps.length : Int) from hlt) (by omega)) (fun _ => ?_)
    have eus : us0 = [] := List.eq_nil_of_length_eq_zero (by rw [← hm0, ← eus0, List.length_map])
    subst eus
    exact hK2 () _ _ ⟨rfl, rfl, rfl, rfl, trivial⟩ (fin _ (Nat.le_refl _) (Mod.refl _ _) (lo_own mpOOk ownD eus0 (by omega) (fun b hb _ e => by omega) (fun _ h => (by cases h))))
  obtain ⟨g2, cD', arrD, hD1, hgb2, hgl2, hbD, hcD, arD⟩ := ar_own mpOk ownD (by rw [← eus0, List.length_map]) hm0 hus0
  cases hD1
  have hgg : ¬ g = g2 := by omega
  have hmpl : y.code.maps.length ≤ 5000 := hy.2.2.1
  refine den_loop (σ := Nat) (fun k => [(1, .pointer (some ⟨X, 0, none⟩)), (2, .pointer (some ⟨V, 0, none⟩)), (21, zi (x.methods.length : Int)), (22, zi (i : Int)), (4, .pointer (some (((⟨g, 0, none⟩ : Addr).add ((i : Int).toNat * 8)).add 3))), (58, zi (y.code.maps.length : Int)), (59, zi (k : Int))]) (fun m k wk => m + k = y.code.maps.length ∧ ∃ arr2 us, wk.heap[g2]? = some (.cells arr2 49 (0, 0)) ∧ AR arr2 3 cD us ∧ us.map (·.2) = y.code.maps ∧ (∀ j u, us[j]? = some u → if j < k then mpO wk (fun b => b < w.heap.size + 2 ∨ b = g ∨ b = g2) u.1 u.2 else mpR wk (fun b => w.heap.size ≤ b) u.1 u.2) ∧ Mod (fun b => b = g2) w3 wk) y.code.maps.length 0 ⟨rfl, rfl, rfl, rfl, rfl, rfl, rfl, trivial⟩ ⟨rfl, arrD, us0, hbD, arD, eus0, (fun j u hu => by
    rw [if_neg (by omega)]
    exact hus0 u (List.mem_of_getElem? hu)), Mod.refl _ _⟩ ?_
  rintro m2 k wk frk ⟨hfuel2, arr2, us, hb2, ar2, eus, hus, mk⟩
  have hzk := mk.size
  have hbk := mk.blk hb3 hgg
  have hul : us.length = y.code.maps.length := by rw [← eus, List.length_map]
  refine seq_cut (σ := Unit) (fun _ => [(1, .pointer (some ⟨X, 0, none⟩)), (2, .pointer (some ⟨V, 0, none⟩)), (21, zi (x.methods.length : Int)), (22, zi (i : Int)), (4, .pointer (some (((⟨g, 0, none⟩ : Addr).add ((i : Int).toNat * 8)).add 3))), (58, zi (y.code.maps.length : Int)), (59, zi (k : Int)), (60, .bool (decide ((k : Int) < (y.code.maps.length : Int))))]) (fun _ w' => w' = wk) ?_ ?_
  rotate_left
  · intro K1 hK1
    exact hK1 () _ _ ⟨rfl, rfl, rfl, rfl, rfl, rfl, rfl, rfl, trivial⟩ rfl
  rintro _ wq1 frq1 hwq1
  obtain rfl := hwq1.symm
  refine seq_cut (σ := Unit) (fun _ => [(1, .pointer (some ⟨X, 0, none⟩)), (2, .pointer (some ⟨V, 0, none⟩)), (21, zi (x.methods.length : Int)), (22, zi (i : Int)), (4, .pointer (some (((⟨g, 0, none⟩ : Addr).add ((i : Int).toNat * 8)).add 3))), (58, zi (y.code.maps.length : Int)), (59, zi (k : Int))]) (fun _ w' => w' = wk ∧ (k : Int) < (y.code.maps.length : Int)) ?_ ?_
  rotate_left
  · intro K1 hK1
    refine if_p (fun hlt2 => hK1 () _ _ ⟨rfl, rfl, rfl, rfl, rfl, rfl, rfl, trivial⟩ ⟨rfl, hlt2⟩) (fun hge2 => ?_)
    replace hge2 : ¬ (k : Int) < (y.code.maps.length : Int) := hge2
    refine hK2 () _ _ ⟨rfl, rfl, rfl, rfl, trivial⟩ (fin wk hzk (mk.mono fun b _ e => by omega) ?_)
    exact ar_lrep mpOOk (by decide) hb2 ar2 hcD eus (by omega) (fun e => by omega) (fun u hu => by
      obtain ⟨j, hj, rfl⟩ := List.mem_iff_getElem.1 hu
      have := hus j _ (List.getElem?_eq_getElem hj)
      rw [if_pos (by omega)] at this
      exact mpOOk.weak this fun b _ e => e.imp id .inl)
  rintro _ wq2 frq2 ⟨hwq2, hlt2⟩
  obtain rfl := hwq2.symm
  replace hlt2 : (k : Int) < (y.code.maps.length : Int) := hlt2
  have hkl : k < us.length := by omega
  obtain ⟨m2, rfl⟩ : ∃ m', m2 = m' + 1 := ⟨m2 - 1, by omega⟩
  have inc2 : Value.int .i64 (IntKind.i64.wrap ((k : Int) + 1)) = .int .i64 ((k + 1 : Nat) : Int) := incN (show k < y.code.maps.length by omega) (by omega)
  refine seq_cut (σ := Unit) (fun _ => [(1, .pointer (some ⟨X, 0, none⟩)), (2, .pointer (some ⟨V, 0, none⟩)), (21, zi (x.methods.length : Int)), (22, zi (i : Int)), (4, .pointer (some (((⟨g, 0, none⟩ : Addr).add ((i : Int).toNat * 8)).add 3))), (58, zi (y.code.maps.length : Int)), (59, zi (k : Int))]) (fun _ w' => ∃ arr2 us, w'.heap[g2]? = some (.cells arr2 49 (0, 0)) ∧ AR arr2 3 cD us ∧ us.map (·.2) = y.code.maps ∧ (∀ j u, us[j]? = some u → if j < k + 1 then mpO w' (fun b => b < w.heap.size + 2 ∨ b = g ∨ b = g2) u.1 u.2 else mpR w' (fun b => w.heap.size ≤ b) u.1 u.2) ∧ Mod (fun b => b = g2) w3 w') ?_ ?_
  · rintro _ wz frz hz
    exact ⟨m2, k + 1, by omega, ⟨rfl, rfl, rfl, rfl, rfl, rfl, inc2, trivial⟩, by omega, hz⟩
  intro K3 hK3
  refine block_ ?_
  refine seq_cut (σ := Unit) (fun _ => [(1, .pointer (some ⟨X, 0, none⟩)), (2, .pointer (some ⟨V, 0, none⟩)), (21, zi (x.methods.length : Int)), (22, zi (i : Int)), (4, .pointer (some (((⟨g, 0, none⟩ : Addr).add ((i : Int).toNat * 8)).add 3))), (58, zi (y.code.maps.length : Int)), (59, zi (k : Int)), (5, zi (k : Int))]) (fun _ w' => w' = wk) ?_ ?_
  rotate_left
  · intro K4 hK4
    exact hK4 () _ _ ⟨rfl, rfl, rfl, rfl, rfl, rfl, rfl, rfl, trivial⟩ rfl
  rintro _ wy3 fry3 hwy3
  obtain rfl := hwy3.symm
  refine seq_cut (σ := Unit) (fun _ => [(1, .pointer (some ⟨X, 0, none⟩)), (2, .pointer (some ⟨V, 0, none⟩)), (21, zi (x.methods.length : Int)), (22, zi (i : Int)), (4, .pointer (some (((⟨g, 0, none⟩ : Addr).add ((i : Int).toNat * 8)).add 3))), (58, zi (y.code.maps.length : Int)), (59, zi (k : Int)), (6, .pointer (some ((⟨g2, 0, none⟩ : Addr).add ((k : Int).toNat * 3))))]) (fun _ w' => w' = wk) ?_ ?_
  rotate_left
  · intro K4 hK4
    refine Exists.intro (some ⟨g2, 0, none⟩) (Exists.intro y.code.maps.length (Exists.intro cD (And.intro (cellA (adr3 g i 8 3 4) hbk (hat3 7 _ rfl)) ?_)))
    refine And.intro (by omega) (And.intro hlt2 ?_)
    exact hK4 () _ _ ⟨rfl, rfl, rfl, rfl, rfl, rfl, rfl, rfl, trivial⟩ rfl
  rintro _ wy4 fry4 hwy4
  obtain rfl := hwy4.symm
  obtain ⟨⟨ucs, u⟩, huu⟩ : ∃ v, v = us[k] := ⟨_, rfl⟩
  have htk : us[k]? = some (ucs, u) := by rw [List.getElem?_eq_getElem hkl, ← huu]
  have hmem2 : u ∈ y.code.maps := by
    rw [← eus]
    exact List.mem_map.2 ⟨_, List.mem_of_getElem? htk, rfl⟩
  have hu := hy.2.2.2 u hmem2
  have hum := hus k _ htk
  rw [if_neg (by omega)] at hum
  dsimp only at hum
  obtain ⟨_, _, rfl, l1, l2⟩ := hum
  obtain ⟨Lo, lo, rfl, _⟩ := l1.get tyOk (by decide)
  obtain ⟨So, so, rfl, _⟩ := l2.get tyOk (by decide)
  have hat2 := (ar2.at_ k _ htk).2
  dsimp only at hat2
  have fin11 : ∀ {z0 z1 z2 y2 : World} {A1 : Option Addr} {a1 : Nat} {ts1 : List (List Value × Ty)} {A2 : Option Addr} {a2 : Nat} {ts2 : List (List Value × Ty)} , New wk z0 → z1.ownsRow z0.heap.size 51 2 (.slice A1 u.locals.length a1) u.locals.length (cellsOf ts1) → ts1.map (·.2) = u.locals → (∀ y ∈ ts1, tyR z0 (fun b => w.heap.size ≤ b) y.1 y.2) → New z0 z1 → z2.ownsRow z1.heap.size 51 2 (.slice A2 u.stack.length a2) u.stack.length (cellsOf ts2) → ts2.map (·.2) = u.stack → (∀ y ∈ ts2, tyR z1 (fun b => w.heap.size ≤ b) y.1 y.2) → New z1 z2 → Mod (fun b => b = g2) z2 y2 → y2.heap[g2]? = some (.cells ((arr2.setIfInBounds (k * 3 + 1) (.slice A1 u.locals.length a1)).setIfInBounds (k * 3 + 2) (.slice A2 u.stack.length a2)) 49 (0, 0)) → ∃ arr2 us, y2.heap[g2]? = some (.cells arr2 49 (0, 0)) ∧ AR arr2 3 cD us ∧ us.map (·.2) = y.code.maps ∧ (∀ j u, us[j]? = some u → if j < k + 1 then mpO y2 (fun b => b < w.heap.size + 2 ∨ b = g ∨ b = g2) u.1 u.2 else mpR y2 (fun b => w.heap.size ≤ b) u.1 u.2) ∧ Mod (fun b => b = g2) w3 y2 := by
    intro z0 z1 z2 y2 A1 a1 ts1 A2 a2 ts2 n o1 e1 hm1 k1 o2 e2 hm2 k2 ym hY
    have sz0 := n.size
    have sz1 := k1.size
    have sz2 := k2.size
    have nk : Mod (fun b => b = g2) wk y2 := Mod.trans ((n.trans k1).trans k2).mod ym fun b _ e => e
    refine ⟨_, us.set k ([zi u.at_, .slice A1 u.locals.length a1, .slice A2 u.stack.length a2], u), hY, ?_, ?_, fun j v hv => ?_, both mk nk⟩
    · have a1' := ar2.put (k := 1) (v := .slice A1 u.locals.length a1) htk (by decide)
      have a2' := a1'.put (k := 2) (v := .slice A2 u.stack.length a2) (get_set htk) (by decide)
      rw [List.set_set] at a2'
      exact a2'
    · rw [map_set htk]
      exact eus
    · by_cases hjk : j = k
      · subst hjk
        rw [get_set htk] at hv
        cases hv
        rw [if_pos (Nat.lt_succ_self _)]
        have l1' := lo_own (S := (fun b => b < w.heap.size + 2 ∨ b = g ∨ b = g2)) tyOk o1 e1 (by have := hu.1; omega) (fun b hb _ e => by omega) (fun v hv => hm1 v hv)
        have l2' := lo_own (S := (fun b => b < w.heap.size + 2 ∨ b = g ∨ b = g2)) tyOk o2 e2 (by have := hu.2; omega) (fun b hb _ e => by omega) (fun v hv => hm2 v hv)
        exact ⟨_, _, rfl, l1'.mod tyOk (by decide) (Mod.trans k2.mod ym fun b _ e => .inr (.inr e)), l2'.mod tyOk (by decide) (ym.mono fun b _ e => .inr (.inr e))⟩
      · rw [ne_set hjk] at hv
        have := hus j v hv
        by_cases hlt2 : j < k
        · rw [if_pos hlt2] at this
          rw [if_pos (by omega)]
          exact mpOOk.mod this (nk.mono fun b _ e => .inr (.inr e))
        · rw [if_neg hlt2] at this
          rw [if_neg (by omega)]
          exact mpOk.mod this (nk.mono fun b _ e => (show w.heap.size ≤ b by omega))
  have hnd2 := New.drew wk
  have hB0 := hnd2.blk hb2
  have mo0 : Mod (fun b => w.heap.size ≤ b) wk wk.drew := hnd2.mod
  refine draw_ (w := wk) ok (.q 0 (.q 1 (.q 2 (.q 3 (.q 4 (.q 7 (.q 8 (.q 9 (.br (.e 5 (.br (.e 6 (.e 10 (.e 11 (.q 12 (.q 13 (.e 14 (.q 15 (.q 16 (.e 17 .done))))))))) (.e 10 (.e 6 (.e 11 (.q 12 (.q 13 (.e 14 (.q 15 (.q 16 (.e 17 .done))))))))))) (.e 10 (.e 5 (.e 6 (.e 11 (.q 12 (.q 13 (.e 14 (.q 15 (.q 16 (.e 17 .done))))))))))))))))))) [17] (fun _ => True) (by kernel_rfl) (by kernel_rfl) (by kernel_rfl) (by kernel_rfl) (by kernel_rfl) trivial ?_
  refine And.intro ?_ ?_
  · refine Exists.intro Lo (Exists.intro u.locals.length (Exists.intro lo (And.intro (cellA (adr2 g2 k 3 1) hB0 (hat2 1 _ rfl)) ?_)))
    refine Exists.intro (fun _ => True) (And.intro (fun _ h => h) (And.intro trivial ?_))
    refine And.intro ?_ ?_
    · refine call_ (CloneTy_ok _ u.locals (fun b => w.heap.size ≤ b) wk.drew (LRep.mod tyOk (by decide) l1 mo0) hu.1) ?_
      rintro e z1 ⟨A1, a1, ts1, rfl, o1, e1, hm1, k1⟩
      refine ⟨_, rfl, ?_⟩
      have mo1 := both mo0 k1.mod
      have hB1 := k1.blk hB0
      refine Exists.intro (fun _ => True) (And.intro (fun _ h => h) (And.intro trivial ?_))
      refine Exists.intro So (Exists.intro u.stack.length (Exists.intro so (And.intro (cellA (adr2 g2 k 3 2) hB1 (hat2 2 _ rfl)) ?_)))
      refine Exists.intro (fun _ => True) (And.intro (fun _ h => h) (And.intro trivial ?_))
      refine call_ (CloneTy_ok _ u.stack (fun b => w.heap.size ≤ b) z1 (LRep.mod tyOk (by decide) l2 mo1) hu.2) ?_
      rintro e z2 ⟨A2, a2, ts2, rfl, o2, e2, hm2, k2⟩
      refine ⟨_, rfl, ?_⟩
      have mo2 := both mo1 k2.mod
      have hB2 := k2.blk hB1
      refine Exists.intro (fun _ => True) (And.intro (fun _ h => h) (And.intro trivial ?_))
      refine And.intro (exA (adr2 g2 k 3 1) hB2 (ar2.lt hkl (show 1 < 3 by decide))) (And.intro (fzA (adr2 g2 k 3 1) hB2) (force_ ?_))
      refine stA (adr2 g2 k 3 1) hB2 (ar2.lt hkl (show 1 < 3 by decide)) ?_
      intro y1 hY1 y1m y1s
      refine Exists.intro (fun _ => True) (And.intro (fun _ h => h) (And.intro trivial ?_))
      refine And.intro (exA (adr2 g2 k 3 2) hY1 (by simpa using ar2.lt hkl (show 2 < 3 by decide))) (And.intro (fzA (adr2 g2 k 3 2) hY1) (force_ ?_))
      refine stA (adr2 g2 k 3 2) hY1 (by simpa using ar2.lt hkl (show 2 < 3 by decide)) ?_
      intro y2 hY2 y2m y2s
      exact hK3 () _ _ ⟨rfl, rfl, rfl, rfl, rfl, rfl, rfl, trivial⟩ (fin11 hnd2 o1 e1 hm1 k1 o2 e2 hm2 k2 (both y1m y2m) hY2)
    · refine Exists.intro So (Exists.intro u.stack.length (Exists.intro so (And.intro (cellA (adr2 g2 k 3 2) hB0 (hat2 2 _ rfl)) ?_)))
      refine Exists.intro (fun _ => True) (And.intro (fun _ h => h) (And.intro trivial ?_))
      refine call_ (CloneTy_ok _ u.locals (fun b => w.heap.size ≤ b) wk.drew (LRep.mod tyOk (by decide) l1 mo0) hu.1) ?_
      rintro e z1 ⟨A1, a1, ts1, rfl, o1, e1, hm1, k1⟩
      refine ⟨_, rfl, ?_⟩
      have mo1 := both mo0 k1.mod
      have hB1 := k1.blk hB0
      refine Exists.intro (fun _ => True) (And.intro (fun _ h => h) (And.intro trivial ?_))
      refine call_ (CloneTy_ok _ u.stack (fun b => w.heap.size ≤ b) z1 (LRep.mod tyOk (by decide) l2 mo1) hu.2) ?_
      rintro e z2 ⟨A2, a2, ts2, rfl, o2, e2, hm2, k2⟩
      refine ⟨_, rfl, ?_⟩
      have mo2 := both mo1 k2.mod
      have hB2 := k2.blk hB1
      refine Exists.intro (fun _ => True) (And.intro (fun _ h => h) (And.intro trivial ?_))
      refine And.intro (exA (adr2 g2 k 3 1) hB2 (ar2.lt hkl (show 1 < 3 by decide))) (And.intro (fzA (adr2 g2 k 3 1) hB2) (force_ ?_))
      refine stA (adr2 g2 k 3 1) hB2 (ar2.lt hkl (show 1 < 3 by decide)) ?_
      intro y1 hY1 y1m y1s
      refine Exists.intro (fun _ => True) (And.intro (fun _ h => h) (And.intro trivial ?_))
      refine And.intro (exA (adr2 g2 k 3 2) hY1 (by simpa using ar2.lt hkl (show 2 < 3 by decide))) (And.intro (fzA (adr2 g2 k 3 2) hY1) (force_ ?_))
      refine stA (adr2 g2 k 3 2) hY1 (by simpa using ar2.lt hkl (show 2 < 3 by decide)) ?_
      intro y2 hY2 y2m y2s
      exact hK3 () _ _ ⟨rfl, rfl, rfl, rfl, rfl, rfl, rfl, trivial⟩ (fin11 hnd2 o1 e1 hm1 k1 o2 e2 hm2 k2 (both y1m y2m) hY2)
  · refine Exists.intro So (Exists.intro u.stack.length (Exists.intro so (And.intro (cellA (adr2 g2 k 3 2) hB0 (hat2 2 _ rfl)) ?_)))
    refine Exists.intro (fun _ => True) (And.intro (fun _ h => h) (And.intro trivial ?_))
    refine Exists.intro Lo (Exists.intro u.locals.length (Exists.intro lo (And.intro (cellA (adr2 g2 k 3 1) hB0 (hat2 1 _ rfl)) ?_)))
    refine Exists.intro (fun _ => True) (And.intro (fun _ h => h) (And.intro trivial ?_))
    refine call_ (CloneTy_ok _ u.locals (fun b => w.heap.size ≤ b) wk.drew (LRep.mod tyOk (by decide) l1 mo0) hu.1) ?_
    rintro e z1 ⟨A1, a1, ts1, rfl, o1, e1, hm1, k1⟩
    refine ⟨_, rfl, ?_⟩
    have mo1 := both mo0 k1.mod
    have hB1 := k1.blk hB0
    refine Exists.intro (fun _ => True) (And.intro (fun _ h => h) (And.intro trivial ?_))
    refine call_ (CloneTy_ok _ u.stack (fun b => w.heap.size ≤ b) z1 (LRep.mod tyOk (by decide) l2 mo1) hu.2) ?_
    rintro e z2 ⟨A2, a2, ts2, rfl, o2, e2, hm2, k2⟩
    refine ⟨_, rfl, ?_⟩
    have mo2 := both mo1 k2.mod
    have hB2 := k2.blk hB1
    refine Exists.intro (fun _ => True) (And.intro (fun _ h => h) (And.intro trivial ?_))
    refine And.intro (exA (adr2 g2 k 3 1) hB2 (ar2.lt hkl (show 1 < 3 by decide))) (And.intro (fzA (adr2 g2 k 3 1) hB2) (force_ ?_))
    refine stA (adr2 g2 k 3 1) hB2 (ar2.lt hkl (show 1 < 3 by decide)) ?_
    intro y1 hY1 y1m y1s
    refine Exists.intro (fun _ => True) (And.intro (fun _ h => h) (And.intro trivial ?_))
    refine And.intro (exA (adr2 g2 k 3 2) hY1 (by simpa using ar2.lt hkl (show 2 < 3 by decide))) (And.intro (fzA (adr2 g2 k 3 2) hY1) (force_ ?_))
    refine stA (adr2 g2 k 3 2) hY1 (by simpa using ar2.lt hkl (show 2 < 3 by decide)) ?_
    intro y2 hY2 y2m y2s
    exact hK3 () _ _ ⟨rfl, rfl, rfl, rfl, rfl, rfl, rfl, trivial⟩ (fin11 hnd2 o1 e1 hm1 k1 o2 e2 hm2 k2 (both y1m y2m) hY2)

end Go.Proofs.YtdcaafldnbcdkaaDoor.Class

/-! ### KCopyS -/
namespace Go.Proofs.YtdcaafldnbcdkaaDoor.Class
open Go Go.Proofs.YtdcaafldnbcdkaaDoor Go.Proofs.YtdcaafldnbcdkaaDoor.Eng Go.Proofs Go.Proofs.YtdcaafldnbcdkaaDoor.Word Go.Proofs.YtdcaafldnbcdkaaDoor.Fmt
open Go.Proofs.YtdcaafldnbcdkaaDoor.Pool (Ent at_ poolF strV entC entV EntOk Pl OkPool both own_low tagAt)
set_option maxRecDepth 10000

theorem small_weigh {c : Cls} (h : weigh c < 5000) : Small c := by
  have key : ∀ {α : Type} (f : α → Nat) (l : List α) (x : α), x ∈ l → f x ≤ csum f l := fun f l x hx => by
    induction l with
    | nil => cases hx
    | cons y r ih =>
      rw [csum_cons]
      rcases List.mem_cons.1 hx with rfl | hx
      · omega
      · have := ih hx
        omega
  unfold weigh at h
  refine ⟨by omega, by omega, by omega, fun y hy => ?_⟩
  have h1 : y.code.bytes.length + y.code.hands.length + csum wMp y.code.maps ≤ csum wMth c.methods := key wMth c.methods y hy
  have h2 : y.code.maps.length ≤ csum wMp y.code.maps := by
    have : ∀ l : List Mp, l.length ≤ csum wMp l := fun l => by
      induction l with
      | nil => exact Nat.le_refl _
      | cons p r ih =>
        rw [csum_cons, List.length_cons]
        show r.length + 1 ≤ (1 + p.locals.length + p.stack.length) + csum wMp r
        omega
    exact this _
  refine ⟨by omega, by omega, by omega, fun p hp => ?_⟩
  have h3 : 1 + p.locals.length + p.stack.length ≤ csum wMp y.code.maps := key wMp y.code.maps p hp
  exact ⟨by omega, by omega⟩
theorem CopyS_ok (cs0 : List Value) (m : Cls) (S : Nat → Prop) (w : World) (hx : clsR w S cs0 m) (hs : Small m) :
    Calls Tryd.prog 11 #[.agg cs0.toArray] w fun e w' => ∃ P2 p2 F2 f2 M2 m2, e = .returned (.agg (List.toArray [.slice P2 m.pool.length p2, strV m.name, strV m.super, .slice F2 m.fields.length f2, .slice M2 m.methods.length m2])) ∧ clsO w' (fun b => b < w.heap.size) [.slice P2 m.pool.length p2, strV m.name, strV m.super, .slice F2 m.fields.length f2, .slice M2 m.methods.length m2] m ∧ New w w' := by
  refine (Copy_ok cs0 m S w hx hs).mono ?_
  rintro e w' ⟨cs, rfl, hc, n⟩
  have hc0 := hc
  obtain ⟨_, _, _, rfl, l1, l2, l3⟩ := hc
  obtain ⟨P2, p2, rfl, _⟩ := l1.rep.get entOk (by decide)
  obtain ⟨F2, f2, rfl, _⟩ := l2.rep.get fldOk (by decide)
  obtain ⟨M2, m2, rfl, _⟩ := l3.rep.get mthOOk (by decide)
  exact ⟨_, _, _, _, _, _, rfl, hc0, n⟩

end Go.Proofs.YtdcaafldnbcdkaaDoor.Class

/-! ### WRef4 -/
namespace Go.Proofs.YtdcaafldnbcdkaaDoor.Word
open Go Go.Proofs.YtdcaafldnbcdkaaDoor Go.Proofs.YtdcaafldnbcdkaaDoor.Eng Go.Proofs
set_option maxRecDepth 10000

/-- What a patch does. -/
def pat (bs : List UInt8) (a k n : Int) : Int × List UInt8 := if wide k = true ∧ fits k n false = true ∧ 0 ≤ a ∧ a ≤ (bs.length : Int) - k then (0, patch bs a.toNat k.toNat n) else (2, bs)
/-- The document's bytes of a number; none: it does not fit. -/
def encOr (k n : Int) (sign : Bool) : List UInt8 := if (wide k && fits k n sign) = true then enc k.toNat n else []
theorem own_nil (w : World) (base : Nat) : w.ownsRow base 5 1 (.slice none 0 0) 0 (bvs []) := ⟨rfl, .inl ⟨rfl, rfl⟩⟩
theorem NBytes_ok (k n : Int) (sign : Bool) (w : World) (hlo : -9223372036854775808 ≤ n) (hup : n ≤ 9223372036854775807) :
    Calls Tryd.prog 111 #[.int .i64 k, .int .i64 n, .bool sign] w fun e w' => ∃ v, e = .returned (.tuple #[v, .bool (wide k && fits k n sign)]) ∧ w'.ownsRow w.heap.size 5 1 v (encOr k n sign).length (bvs (encOr k n sign)) ∧ New w w' := by
  refine enter ok Tryd.func111 rfl rfl rfl ?_
  have no : (wide k && fits k n sign) = false → ∃ v, Ending.returned (.tuple #[.slice none 0 0, .bool false]) = .returned (.tuple #[v, .bool (wide k && fits k n sign)]) ∧ w.ownsRow w.heap.size 5 1 v (encOr k n sign).length (bvs (encOr k n sign)) ∧ New w w := by
    intro hno
    unfold encOr
    rw [hno]
    exact ⟨_, rfl, own_nil _ _, New.refl _⟩
  refine call_ (refwide_ok k w) ?_
  rintro e w' ⟨rfl, rfl⟩
  refine ⟨_, rfl, ?_⟩
  refine if_ (fun hwk => ?_) (fun hwk => ?_)
  · exact no (by have : wide k = false := by simpa using hwk
                 rw [this, Bool.false_and])
  replace hwk : wide k = true := by simpa using hwk
  have hkc := wide_cases hwk
  obtain ⟨k, rfl⟩ : ∃ x : Nat, k = x := ⟨k.toNat, by omega⟩
  refine seq_cut (σ := Unit) (fun _ => [(0, .int .i64 k), (1, .int .i64 n), (2, .bool sign)]) (fun _ w2 => w2 = w' ∧ fits k n sign = true) ?_ ?_
  rotate_left
  · intro K hK
    have go : fits k n sign = true → ∀ fr, Slots fr [(0, .int .i64 k), (1, .int .i64 n), (2, .bool sign)] → K fr w' := fun hf fr hs => hK () fr w' hs ⟨rfl, hf⟩
    refine if_p (fun h8 => ?_) (fun h8 => ?_)
    · have hk8 : k = 8 := by omega
      have hf8 : fits k n sign = (sign || decide (0 ≤ n)) := by
        subst hk8
        simp [fits]
      cases sign with
      | true => exact go (by rw [hf8]; rfl) _ ⟨rfl, rfl, rfl, trivial⟩
      | false =>
        refine if_p (fun hneg => ?_) (fun hpos => ?_)
        · exact no (by rw [hwk, hf8, Bool.true_and, Bool.false_or]; exact decide_eq_false (by omega))
        · exact go (by rw [hf8, Bool.false_or]; exact decide_eq_true (by omega)) _ ⟨rfl, rfl, rfl, trivial⟩
    · have hk4 : k = 1 ∨ k = 2 ∨ k = 4 := by omega
      obtain ⟨ft, ff⟩ := fits_small k n hk4
      have h4 : 256 ^ k ≤ 256 ^ 4 := Nat.pow_le_pow_right (by decide) (by omega)
      have h4' : 256 ^ k ≤ 4294967296 := h4
      have he : (256 ^ k : Nat) % 2 = 0 := by rcases hk4 with rfl | rfl | rfl <;> rfl
      have hfull := fun w => full_ok k w (by omega)
      generalize 256 ^ k = q at ft ff h4' he hfull
      cases sign with
      | true =>
        refine call_ (hfull _) ?_
        rintro e w1 ⟨rfl, rfl⟩
        refine ⟨_, rfl, ?_⟩
        refine And.intro (by decide) ?_
        have eneg : IntKind.i64.wrap ((IntKind.i64.wrap (0 - (q : Int))).tdiv 2) = -((q : Int) / 2) := by
          rw [wrap_i64 (n := 0 - (q : Int)) (by omega) (by omega)]
          have : (0 - (q : Int)).tdiv 2 = -((q : Int) / 2) := by
            rw [Int.zero_sub, Int.neg_tdiv, Int.tdiv_eq_ediv_of_nonneg (by omega)]
          rw [this, wrap_i64 (by omega) (by omega)]
        have epos : IntKind.i64.wrap ((q : Int).tdiv 2) = (q : Int) / 2 := by
          rw [Int.tdiv_eq_ediv_of_nonneg (by omega), wrap_i64 (by omega) (by omega)]
        refine if_p (fun h1 => ?_) (fun h1 => ?_)
        · rw [eneg] at h1
          exact no (by rw [hwk, ft, Bool.true_and, decide_eq_false (show ¬ -((q : Int) / 2) ≤ n by omega), Bool.false_and])
        rw [eneg] at h1
        refine call_ (hfull _) ?_
        rintro e w2 ⟨rfl, rfl⟩
        refine ⟨_, rfl, ?_⟩
        refine And.intro (by decide) ?_
        refine if_p (fun h2 => ?_) (fun h2 => ?_)
        · rw [epos] at h2
          exact no (by rw [hwk, ft, Bool.true_and, decide_eq_false (show ¬ n < (q : Int) / 2 by omega), Bool.and_false])
        rw [epos] at h2
        exact go (by rw [ft, decide_eq_true (show -((q : Int) / 2) ≤ n by omega), decide_eq_true (show n < (q : Int) / 2 by omega)]; rfl) _ ⟨rfl, rfl, rfl, trivial⟩
      | false =>
        refine if_p (fun h1 => ?_) (fun h1 => ?_)
        · exact no (by rw [hwk, ff, Bool.true_and, decide_eq_false (show ¬ 0 ≤ n by omega), Bool.false_and])
        refine call_ (hfull _) ?_
        rintro e w2 ⟨rfl, rfl⟩
        refine ⟨_, rfl, ?_⟩
        refine if_p (fun h2 => ?_) (fun h2 => ?_)
        · exact no (by rw [hwk, ff, Bool.true_and, decide_eq_false (show ¬ n < (q : Int) by omega), Bool.and_false])
        exact go (by rw [ff, decide_eq_true (show 0 ≤ n by omega), decide_eq_true (show n < (q : Int) by omega)]; rfl) _ ⟨rfl, rfl, rfl, trivial⟩
  rintro s w2 fr0 ⟨rfl, hf⟩
  have hok : (wide (k : Int) && fits k n sign) = true := by rw [hwk, hf]; rfl
  have hen : encOr k n sign = enc k n := by unfold encOr; rw [if_pos hok, Int.toNat_natCast]
  rw [hok, hen, enc_length]
  refine make_ ok rfl rfl rfl rfl rfl rfl (n := k) (by show 1 * k ≤ _; omega) (by omega) rfl rfl ?_
  intro w3 own3 n3
  have hz0 : List.replicate k (Value.int .u8 0) = bvs (List.replicate k 0) := by
    unfold bvs
    rw [List.map_replicate]
    rfl
  have own3' : w3.ownsRow w2.heap.size 5 1 (.slice (some ⟨w2.heap.size, 0, none⟩) k k) k (bvs (filled k n k)) := by
    rw [filled_all, ← hz0]
    exact own3
  refine den_loop (σ := Nat) (fun m => [(8, .int .u64 (n % 18446744073709551616 / 256 ^ (k - m))), (9, .slice (some ⟨w2.heap.size, 0, none⟩) k k), (10, .int .i64 ((m : Int) - 1))])
    (fun m' m wl => m ≤ k ∧ m' = m ∧ wl.ownsRow w2.heap.size 5 1 (.slice (some ⟨w2.heap.size, 0, none⟩) k k) k (bvs (filled k n m)) ∧ New w2 wl) k k ?_ ⟨Nat.le_refl _, rfl, own3', n3⟩ ?_
  · refine ⟨?_, rfl, ?_, trivial⟩
    · show Value.int .u64 (IntKind.u64.wrap n) = _
      rw [wrap_u64, Nat.sub_self]
      simp
    · show Value.int .i64 (IntKind.i64.wrap _) = _
      rw [wrap_i64 (by omega) (by omega)]
  rintro m m0 wl fr1 ⟨hm, rfl, hown, hl⟩
  refine if_p (fun hge => ?_) (fun hlt => ?_)
  · obtain ⟨m, rfl⟩ : ∃ x, m = x + 1 := ⟨m - 1, by omega⟩
    have hcast : (((m + 1 : Nat) : Int) - 1).toNat = m := by omega
    have e0 : (⟨w2.heap.size, 0, none⟩ : Addr).add ((((m + 1 : Nat) : Int) - 1).toNat * 1) = ⟨w2.heap.size, m, none⟩ := by rw [hcast, Nat.mul_one, ad1]
    have hflen := filled_length k n (m + 1) (by omega)
    obtain ⟨hc, hfz, hst⟩ := own_store hown m (by rw [bvs_length, hflen]; omega)
    have hx0 : 0 ≤ n % 18446744073709551616 / 256 ^ (k - (m + 1)) := Int.ediv_nonneg (Int.emod_nonneg _ (by decide)) (Int.le_of_lt (Int.pow_pos (by decide)))
    refine And.intro (by decide) (And.intro (by omega) (And.intro (by omega) (And.intro ⟨_, by rw [e0]; exact hc⟩ (And.intro (by rw [e0]; exact hfz) (And.intro (by decide) ?_)))))
    have ev : Value.int .u8 (IntKind.u8.wrap ((n % 18446744073709551616 / 256 ^ (k - (m + 1))).tmod 256)) = bv (encAt k n m) := by
      rw [wrap_byte, Int.tmod_eq_emod_of_nonneg hx0, u64_div n (k - (m + 1)) (by omega)]
      have : k - 1 - m = k - (m + 1) := by omega
      unfold encAt
      rw [this, Int.emod_emod_of_dvd _ (Int.dvd_refl 256)]
    obtain ⟨own5, mod5⟩ := hst (bv (encAt k n m))
    rw [bvs_set, filled_set k n m (by omega)] at own5
    refine ⟨m, m, by omega, ⟨?_, rfl, ?_, trivial⟩, by omega, rfl, ?_, ?_⟩
    · show Value.int .u64 (IntKind.u64.wrap ((n % 18446744073709551616 / 256 ^ (k - (m + 1))).tdiv 256)) = _
      have hkm : k - m = k - (m + 1) + 1 := by omega
      rw [Int.tdiv_eq_ediv_of_nonneg hx0, hkm, Int.pow_succ, ← Int.ediv_ediv_of_nonneg (Int.le_of_lt (Int.pow_pos (by decide))), wrap_u64, Int.emod_eq_of_lt]
      · exact Int.ediv_nonneg hx0 (by decide)
      · have h1 : n % 18446744073709551616 / 256 ^ (k - (m + 1)) ≤ n % 18446744073709551616 := Int.ediv_le_self _ (Int.emod_nonneg _ (by decide))
        have h2 : n % 18446744073709551616 < 18446744073709551616 := Int.emod_lt_of_pos _ (by decide)
        generalize n % 18446744073709551616 / 256 ^ (k - (m + 1)) = y at hx0 h1
        omega
    · show Value.int .i64 (IntKind.i64.wrap _) = _
      rw [wrap_i64 (by omega) (by omega)]
      congr 1
      omega
    · rw [e0]
      have := own5
      rw [← ev] at this
      exact this
    · rw [e0]
      have := mod5
      rw [← ev] at this
      exact Mod.trans hl this fun b hb e => by omega
  · have : m = 0 := by omega
    subst this
    rw [filled_zero] at hown
    exact ⟨_, rfl, hown, hl⟩
end Go.Proofs.YtdcaafldnbcdkaaDoor.Word

/-! ### WRef5 -/
namespace Go.Proofs.YtdcaafldnbcdkaaDoor.Word
open Go Go.Proofs.YtdcaafldnbcdkaaDoor Go.Proofs.YtdcaafldnbcdkaaDoor.Eng Go.Proofs
set_option maxRecDepth 10000

theorem own_row {w : World} {base : Nat} {e : TypeId} {size n : Nat} {A : Option Addr} {c : Nat} {xs : List Value} (h : w.ownsRow base e size (.slice A n c) n xs) : n ≤ c ∧ c ≤ 9223372036854775807 ∧ Row w A xs ∧ ∀ a, A = some a → base ≤ a.block ∧ a.block < w.heap.size := by
  obtain ⟨A', c', he, h1, h2, h3, h4⟩ := own_slice h
  cases he
  exact ⟨h1, h2, h3, fun a ha => ⟨(h4 a ha).1, (h4 a ha).2.1⟩⟩
/-- Below the old end nothing is turned by what turns new blocks alone. -/
theorem New.of_own {w w1 w2 : World} {v : Value} {e : TypeId} {size n : Nat} {xs : List Value} (h : New w w1) (ho : w1.ownsRow w.heap.size e size v n xs) (k : Mod (fun b => some b = v.ownBlock) w1 w2) : New w w2 :=
  Mod.trans h k fun b hb e => by
    have := (ho.lt b e.symm).1
    omega
theorem good_false {k : Int} {sign : Bool} {zs : List Int} {i : Nat} (hi : i < zs.length) (h : (wide k && fits k zs[i] sign) = false) : good k sign zs = false := by
  unfold good
  cases hw : wide k with
  | false => rfl
  | true =>
    rw [hw, Bool.true_and] at h
    have : zs.any (fun n => !fits k n sign) = true := List.any_eq_true.mpr ⟨zs[i], List.getElem_mem hi, by rw [h]; rfl⟩
    rw [this]
    rfl
theorem Put_ok (A : Option Addr) (c : Nat) (bs : List UInt8) (k : Int) (sign : Bool) (C : Option Addr) (q qc : Nat) (zs : List Int) (w : World) (hr : Row w A (bvs bs)) (hc : bs.length ≤ c) (ht : c ≤ 9223372036854775807) (hz : Row w C (ivs zs)) (hq : q = zs.length)
    (hb : ∀ z ∈ zs, -9223372036854775808 ≤ z ∧ z ≤ 9223372036854775807) (hm : bs.length + 8 * zs.length ≤ 140737488355328) :
    Calls Tryd.prog 83 #[.slice A bs.length c, .int .i64 k, .bool sign, .slice C q qc] w fun e w' => ∃ A' c', e = .returned (.tuple #[.slice A' (allBs bs k sign zs).length c', .int .i64 (allErr k sign zs)]) ∧
      Row w' A' (bvs (allBs bs k sign zs)) ∧ (allBs bs k sign zs).length ≤ c' ∧ c' ≤ 9223372036854775807 ∧ New w w' ∧ ∀ a, A' = some a → A = some a ∨ w.heap.size ≤ a.block ∧ a.block < w'.heap.size := by
  refine enter ok Tryd.func83 rfl rfl rfl ?_
  refine append2_ ok rfl rfl rfl rfl (own_lit w [] 5 1 0 w.heap.size (Nat.le_refl _) rfl (by omega)) rfl rfl (hr.new (New.alloc _ _)) (by rw [bvs_length]; exact (Nat.mul_one _).symm) (bvs_one bs) (by decide) rfl (by show (0 + bs.length) * 1 ≤ _; omega) (by omega) (by simp) ?_
  intro A0 c0 w0 own0 mod0 _
  rw [Nat.zero_add] at own0
  replace own0 : w0.ownsRow w.heap.size 5 1 (.slice A0 bs.length c0) bs.length (bvs bs) := own0
  have n0 : New w w0 := Mod.trans (New.alloc w _) mod0 (by
    intro i hi h
    simp only [Value.ownBlock, Option.some.injEq] at h
    omega)
  have e0 : (Value.slice A0 (0 + bs.length) c0) = .slice A0 bs.length c0 := by rw [Nat.zero_add]
  refine call_ (refwide_ok k w0) ?_
  rintro e w1 ⟨rfl, rfl⟩
  refine ⟨_, rfl, ?_⟩
  have no : ∀ {w2 : World}, New w w2 → good k sign zs = false → ∃ A' c', Ending.returned (.tuple #[.slice A bs.length c, .int .i64 2]) = .returned (.tuple #[.slice A' (allBs bs k sign zs).length c', .int .i64 (allErr k sign zs)]) ∧
      Row w2 A' (bvs (allBs bs k sign zs)) ∧ (allBs bs k sign zs).length ≤ c' ∧ c' ≤ 9223372036854775807 ∧ New w w2 ∧ ∀ a, A' = some a → A = some a ∨ w.heap.size ≤ a.block ∧ a.block < w2.heap.size := by
    intro w2 n2 hg
    unfold allErr allBs
    rw [hg]
    exact ⟨A, c, rfl, hr.new n2, hc, ht, n2, fun a ha => .inl ha⟩
  refine if_ (fun hwk => ?_) (fun hwk => ?_)
  · exact no n0 (by
      have : wide k = false := by simpa using hwk
      unfold good
      rw [this]
      rfl)
  replace hwk : wide k = true := by simpa using hwk
  have hkc := wide_cases hwk
  refine den_loop (σ := Nat × Option Addr × Nat × Nat) (fun s => [(0, .slice A bs.length c), (1, .int .i64 k), (2, .bool sign), (3, .slice C q qc), (10, .slice s.2.1 s.2.2.1 s.2.2.2), (11, .int .i64 s.1)])
    (fun m s wl => s.1 ≤ q ∧ m = q - s.1 ∧ s.2.2.1 = (bs ++ (zs.take s.1).flatMap (enc k.toNat)).length ∧ wl.ownsRow w.heap.size 5 1 (.slice s.2.1 s.2.2.1 s.2.2.2) s.2.2.1 (bvs (bs ++ (zs.take s.1).flatMap (enc k.toNat))) ∧ New w wl ∧ (zs.take s.1).any (fun n => !fits k n sign) = false) q (0, A0, bs.length, c0) ⟨rfl, rfl, rfl, rfl, e0, rfl, trivial⟩
    ⟨Nat.zero_le _, rfl, by simp, by simpa using own0, n0, by simp⟩ ?_
  rintro m ⟨i, A1, n1, c1⟩ wl fr0 ⟨hi, rfl, hn1, own1, nl, hno⟩
  dsimp only at hi hn1 own1 nl hno
  have hlen : (bs ++ (zs.take i).flatMap (enc k.toNat)).length = bs.length + k.toNat * i := by rw [List.length_append, flat_length, List.length_take, Nat.min_eq_left (by omega)]
  have hki : k.toNat * i ≤ 8 * i := Nat.mul_le_mul_right _ (by omega)
  refine if_p (fun hlt => ?_) (fun hge => ?_)
  · have hi' : i < zs.length := by omega
    obtain ⟨a, rfl, hcell⟩ := (hz.new nl).at_ i (by simp [ivs]; omega)
    have hzv : (ivs zs)[i]'(by simp [ivs]; omega) = .int .i64 zs[i] := by simp [ivs]
    rw [hzv] at hcell
    obtain ⟨lo, up⟩ := hb zs[i] (List.getElem_mem hi')
    refine And.intro (by omega) (And.intro hlt (some_at rfl (Exists.intro _ (And.intro (by rw [Nat.mul_one, Int.toNat_natCast]; exact hcell) ?_))))
    refine call_ (NBytes_ok k zs[i] sign wl lo up) ?_
    rintro e w5 ⟨v, rfl, own5, n5⟩
    obtain ⟨A5, c5, rfl, _, _, row5, _⟩ := own_slice own5
    refine ⟨_, rfl, ?_⟩
    refine if_ (fun hbad => ?_) (fun hgood => ?_)
    · exact no (nl.trans n5) (good_false hi' (Bool.not_eq_true' _ ▸ hbad))
    replace hgood : (wide k && fits k zs[i] sign) = true := by simpa using hgood
    have hen : encOr k zs[i] sign = enc k.toNat zs[i] := by unfold encOr; rw [if_pos hgood]
    rw [hen] at row5
    have hfit : fits k zs[i] sign = true := by rw [hwk, Bool.true_and] at hgood; exact hgood
    have own6 := own_new n5 own1
    have hl5 : (encOr k zs[i] sign).length = k.toNat := by rw [hen, enc_length]
    refine append2_ ok rfl rfl rfl rfl own6 rfl rfl row5 (by rw [bvs_length, hl5, enc_length]; exact (Nat.mul_one _).symm) (bvs_one _) (by decide) rfl (by rw [hl5]; show (n1 + k.toNat) * 1 ≤ _; omega) (by rw [hl5]; omega) (Nat.le_trans nl.size n5.size) ?_
    intro A7 c7 w7 own7 mod7 _
    have n7 := New.of_own (nl.trans n5) own6 mod7
    refine ⟨q - (i + 1), (i + 1, A7, n1 + k.toNat, c7), by omega, ⟨rfl, rfl, rfl, rfl, ?_, ?_, trivial⟩, by show i + 1 ≤ q; omega, rfl, ?_, ?_, n7, ?_⟩
    · show Value.slice A7 (n1 + (encOr k zs[i] sign).length) c7 = _
      rw [hl5]
    · show Value.int .i64 (IntKind.i64.wrap _) = _
      rw [wrap_i64 (by omega) (by omega)]
      rfl
    · show n1 + k.toNat = _
      rw [flat_take zs _ i hi', ← List.append_assoc, List.length_append, enc_length, ← hn1]
    · show w7.ownsRow w.heap.size 5 1 (.slice A7 (n1 + k.toNat) c7) (n1 + k.toNat) (bvs (bs ++ (zs.take (i + 1)).flatMap (enc k.toNat)))
      rw [flat_take zs _ i hi', ← List.append_assoc, bvs_append]
      rw [hl5] at own7
      exact own7
    · show (zs.take (i + 1)).any _ = false
      rw [List.take_succ_eq_append_getElem hi', List.any_append, hno, Bool.false_or, List.any_cons, List.any_nil, Bool.or_false, hfit]
      rfl
  · have : i = q := by omega
    subst this
    rw [hq, List.take_length] at hno hn1 own1
    have hg : good k sign zs = true := by
      unfold good
      rw [hwk, hno]
      rfl
    unfold allErr allBs
    rw [hg, if_pos rfl, if_pos rfl]
    subst hn1
    obtain ⟨h1, h2, h3, h4⟩ := own_row own1
    exact ⟨_, _, rfl, h3, h1, h2, nl, fun a ha => .inr (h4 a ha)⟩

end Go.Proofs.YtdcaafldnbcdkaaDoor.Word

/-! ### KPut -/
namespace Go.Proofs.YtdcaafldnbcdkaaDoor.Word
open Go Go.Proofs.YtdcaafldnbcdkaaDoor Go.Proofs.YtdcaafldnbcdkaaDoor.Eng Go.Proofs
set_option maxRecDepth 10000

theorem PutO_ok (A : Option Addr) (c : Nat) (bs : List UInt8) (k : Int) (sign : Bool) (C : Option Addr) (q qc : Nat) (zs : List Int) (w : World) (hr : Row w A (bvs bs)) (hc : bs.length ≤ c) (ht : c ≤ 9223372036854775807) (hz : Row w C (ivs zs)) (hq : q = zs.length)
    (hb : ∀ z ∈ zs, -9223372036854775808 ≤ z ∧ z ≤ 9223372036854775807) (hm : bs.length + 8 * zs.length ≤ 140737488355328) :
    Calls Tryd.prog 83 #[.slice A bs.length c, .int .i64 k, .bool sign, .slice C q qc] w fun e w' => ∃ A' c', e = .returned (.tuple #[.slice A' (allBs bs k sign zs).length c', .int .i64 (allErr k sign zs)]) ∧
      New w w' ∧ (good k sign zs = true → w'.ownsRow w.heap.size 5 1 (.slice A' (allBs bs k sign zs).length c') (allBs bs k sign zs).length (bvs (allBs bs k sign zs))) ∧ (good k sign zs = false → A' = A ∧ c' = c) := by
  refine enter ok Tryd.func83 rfl rfl rfl ?_
  refine append2_ ok rfl rfl rfl rfl (own_lit w [] 5 1 0 w.heap.size (Nat.le_refl _) rfl (by omega)) rfl rfl (hr.new (New.alloc _ _)) (by rw [bvs_length]; exact (Nat.mul_one _).symm) (bvs_one bs) (by decide) rfl (by show (0 + bs.length) * 1 ≤ _; omega) (by omega) (by simp) ?_
  intro A0 c0 w0 own0 mod0 _
  rw [Nat.zero_add] at own0
  replace own0 : w0.ownsRow w.heap.size 5 1 (.slice A0 bs.length c0) bs.length (bvs bs) := own0
  have n0 : New w w0 := Mod.trans (New.alloc w _) mod0 (by
    intro i hi h
    simp only [Value.ownBlock, Option.some.injEq] at h
    omega)
  have e0 : (Value.slice A0 (0 + bs.length) c0) = .slice A0 bs.length c0 := by rw [Nat.zero_add]
  refine call_ (refwide_ok k w0) ?_
  rintro e w1 ⟨rfl, rfl⟩
  refine ⟨_, rfl, ?_⟩
  have no : ∀ {w2 : World}, New w w2 → good k sign zs = false → ∃ A' c', Ending.returned (.tuple #[.slice A bs.length c, .int .i64 2]) = .returned (.tuple #[.slice A' (allBs bs k sign zs).length c', .int .i64 (allErr k sign zs)]) ∧
      New w w2 ∧ (good k sign zs = true → w2.ownsRow w.heap.size 5 1 (.slice A' (allBs bs k sign zs).length c') (allBs bs k sign zs).length (bvs (allBs bs k sign zs))) ∧ (good k sign zs = false → A' = A ∧ c' = c) := by
    intro w2 n2 hg
    unfold allErr allBs
    rw [hg]
    exact ⟨A, c, rfl, n2, (fun h => by cases h), fun _ => ⟨rfl, rfl⟩⟩
  refine if_ (fun hwk => ?_) (fun hwk => ?_)
  · exact no n0 (by
      have : wide k = false := by simpa using hwk
      unfold good
      rw [this]
      rfl)
  replace hwk : wide k = true := by simpa using hwk
  have hkc := wide_cases hwk
  refine den_loop (σ := Nat × Option Addr × Nat × Nat) (fun s => [(0, .slice A bs.length c), (1, .int .i64 k), (2, .bool sign), (3, .slice C q qc), (10, .slice s.2.1 s.2.2.1 s.2.2.2), (11, .int .i64 s.1)])
    (fun m s wl => s.1 ≤ q ∧ m = q - s.1 ∧ s.2.2.1 = (bs ++ (zs.take s.1).flatMap (enc k.toNat)).length ∧ wl.ownsRow w.heap.size 5 1 (.slice s.2.1 s.2.2.1 s.2.2.2) s.2.2.1 (bvs (bs ++ (zs.take s.1).flatMap (enc k.toNat))) ∧ New w wl ∧ (zs.take s.1).any (fun n => !fits k n sign) = false) q (0, A0, bs.length, c0) ⟨rfl, rfl, rfl, rfl, e0, rfl, trivial⟩
    ⟨Nat.zero_le _, rfl, by simp, by simpa using own0, n0, by simp⟩ ?_
  rintro m ⟨i, A1, n1, c1⟩ wl fr0 ⟨hi, rfl, hn1, own1, nl, hno⟩
  dsimp only at hi hn1 own1 nl hno
  have hlen : (bs ++ (zs.take i).flatMap (enc k.toNat)).length = bs.length + k.toNat * i := by rw [List.length_append, flat_length, List.length_take, Nat.min_eq_left (by omega)]
  have hki : k.toNat * i ≤ 8 * i := Nat.mul_le_mul_right _ (by omega)
  refine if_p (fun hlt => ?_) (fun hge => ?_)
  · have hi' : i < zs.length := by omega
    obtain ⟨a, rfl, hcell⟩ := (hz.new nl).at_ i (by simp [ivs]; omega)
    have hzv : (ivs zs)[i]'(by simp [ivs]; omega) = .int .i64 zs[i] := by simp [ivs]
    rw [hzv] at hcell
    obtain ⟨lo, up⟩ := hb zs[i] (List.getElem_mem hi')
    refine And.intro (by omega) (And.intro hlt (some_at rfl (Exists.intro _ (And.intro (by rw [Nat.mul_one, Int.toNat_natCast]; exact hcell) ?_))))
    refine call_ (NBytes_ok k zs[i] sign wl lo up) ?_
    rintro e w5 ⟨v, rfl, own5, n5⟩
    obtain ⟨A5, c5, rfl, _, _, row5, _⟩ := own_slice own5
    refine ⟨_, rfl, ?_⟩
    refine if_ (fun hbad => ?_) (fun hgood => ?_)
    · exact no (nl.trans n5) (good_false hi' (Bool.not_eq_true' _ ▸ hbad))
    replace hgood : (wide k && fits k zs[i] sign) = true := by simpa using hgood
    have hen : encOr k zs[i] sign = enc k.toNat zs[i] := by unfold encOr; rw [if_pos hgood]
    rw [hen] at row5
    have hfit : fits k zs[i] sign = true := by rw [hwk, Bool.true_and] at hgood; exact hgood
    have own6 := own_new n5 own1
    have hl5 : (encOr k zs[i] sign).length = k.toNat := by rw [hen, enc_length]
    refine append2_ ok rfl rfl rfl rfl own6 rfl rfl row5 (by rw [bvs_length, hl5, enc_length]; exact (Nat.mul_one _).symm) (bvs_one _) (by decide) rfl (by rw [hl5]; show (n1 + k.toNat) * 1 ≤ _; omega) (by rw [hl5]; omega) (Nat.le_trans nl.size n5.size) ?_
    intro A7 c7 w7 own7 mod7 _
    have n7 := New.of_own (nl.trans n5) own6 mod7
    refine ⟨q - (i + 1), (i + 1, A7, n1 + k.toNat, c7), by omega, ⟨rfl, rfl, rfl, rfl, ?_, ?_, trivial⟩, by show i + 1 ≤ q; omega, rfl, ?_, ?_, n7, ?_⟩
    · show Value.slice A7 (n1 + (encOr k zs[i] sign).length) c7 = _
      rw [hl5]
    · show Value.int .i64 (IntKind.i64.wrap _) = _
      rw [wrap_i64 (by omega) (by omega)]
      rfl
    · show n1 + k.toNat = _
      rw [flat_take zs _ i hi', ← List.append_assoc, List.length_append, enc_length, ← hn1]
    · show w7.ownsRow w.heap.size 5 1 (.slice A7 (n1 + k.toNat) c7) (n1 + k.toNat) (bvs (bs ++ (zs.take (i + 1)).flatMap (enc k.toNat)))
      rw [flat_take zs _ i hi', ← List.append_assoc, bvs_append]
      rw [hl5] at own7
      exact own7
    · show (zs.take (i + 1)).any _ = false
      rw [List.take_succ_eq_append_getElem hi', List.any_append, hno, Bool.false_or, List.any_cons, List.any_nil, Bool.or_false, hfit]
      rfl
  · have : i = q := by omega
    subst this
    rw [hq, List.take_length] at hno hn1 own1
    have hg : good k sign zs = true := by
      unfold good
      rw [hwk, hno]
      rfl
    unfold allErr allBs
    rw [hg, if_pos rfl, if_pos rfl]
    subst hn1
    exact ⟨_, _, rfl, nl, (fun _ => own1), fun h => by cases h⟩

end Go.Proofs.YtdcaafldnbcdkaaDoor.Word

/-! ### KRef1 -/
namespace Go.Proofs.YtdcaafldnbcdkaaDoor.Class
open Go Go.Proofs.YtdcaafldnbcdkaaDoor Go.Proofs.YtdcaafldnbcdkaaDoor.Eng Go.Proofs Go.Proofs.YtdcaafldnbcdkaaDoor.Word Go.Proofs.YtdcaafldnbcdkaaDoor.Fmt
open Go.Proofs.YtdcaafldnbcdkaaDoor.Pool (Ent at_ poolF strV entC entV EntOk Pl OkPool both own_low tagAt)
set_option maxRecDepth 10000

/-- The document's writer in memory. -/
structure Ri (w : World) (base : Nat) (p : Po) (h : Nat) (v : Value) (t : WT) : Prop where
  blk : w.heap[h]? = some (.cells #[p.v, v, .bool t.2] 100 (0, 0))
  own : w.ownsRow base 5 1 v t.1.length (bvs t.1)
  off : v.ownBlock ≠ some h
  bh : base ≤ h
  cx : Cx w base p
abbrev RHb (h : Nat) (v : Value) : Nat → Prop := fun b => some b = v.ownBlock ∨ b = h
structure Kr (w : World) (base : Nat) (p : Po) (h : Nat) (v : Value) (w' : World) (v' : Value) (t : WT) : Prop where
  ri : Ri w' base p h v' t
  mod : Mod (RHb h v) w w'
  st : stayed w v v'
section
variable {w w' w1 w2 : World} {base h : Nat} {p : Po} {v v' v1 v2 : Value} {t t2 : WT}
theorem Ri.lt (c : Ri w base p h v t) : h < w.heap.size := (Array.getElem?_eq_some_iff.1 c.blk).1
theorem Ri.bw (c : Ri w base p h v t) : base ≤ w.heap.size := c.cx.bw
theorem Ri.vlt (c : Ri w base p h v t) {b : Nat} (e : v.ownBlock = some b) : base ≤ b ∧ b < w.heap.size := c.own.lt b e
theorem Ri.new (c : Ri w base p h v t) (n : New w w') : Ri w' base p h v t := ⟨n.blk c.blk, own_new n c.own, c.off, c.bh, c.cx.new n⟩
theorem Kr.refl (c : Ri w base p h v t) : Kr w base p h v w v t := ⟨c, Mod.refl _ _, stayed.refl w v⟩
theorem Kr.new (c : Kr w base p h v w' v' t) (n : New w' w2) : Kr w base p h v w2 v' t := ⟨c.ri.new n, both c.mod n.mod, c.st⟩
theorem Kr.then (c : Kr w base p h v w1 v1 t) (k : Kr w1 base p h v1 w2 v2 t2) : Kr w base p h v w2 v2 t2 := by
  refine ⟨k.ri, Mod.trans c.mod k.mod ?_, stayed.trans c.st c.mod.size k.st⟩
  rintro b hb (e | e)
  · rcases c.st b e.symm with h1 | h1
    · exact .inl h1.symm
    · omega
  · exact .inr e
theorem Ri.at_ (c : Ri w base p h v t) {b : Nat} (e : RHb h v b) : base ≤ b := by
  have h1 := c.bh
  rcases e with e | e
  · exact (c.vlt e.symm).1
  · omega
theorem Ri.hi (c : Ri w base p h v t) {b : Nat} (hb : w.heap.size ≤ b) : ¬ RHb h v b := by
  have := c.lt
  rintro (e | e)
  · exact absurd (c.vlt e.symm).2 (by omega)
  · omega
/-- The mark is set. -/
theorem Ri.set (c : Ri w base p h v t) (m : Mod (fun b => b = h) w w') {b : Bool} (hb : w'.heap[h]? = some (.cells #[p.v, v, .bool b] 100 (0, 0))) : Kr w base p h v w' v (t.1, b) :=
  ⟨⟨hb, own_mod m c.own (fun k hk e => c.off (by rw [hk, e])), c.off, c.bh, c.cx.mod m fun b _ e => by rw [e]; exact c.bh⟩, m.mono fun _ _ e => .inr e, stayed.refl w v⟩
/-- The bytes are set. -/
theorem Ri.put (c : Ri w base p h v t) {bs : List UInt8} (n : Mod (fun b => some b = v.ownBlock) w w1) (own : w1.ownsRow base 5 1 v1 bs.length (bvs bs)) (st : stayed w v v1) (m : Mod (fun b => b = h) w1 w2)
    (hb : w2.heap[h]? = some (.cells #[p.v, v1, .bool t.2] 100 (0, 0))) : Kr w base p h v w2 v1 (bs, t.2) := by
  have hl := c.lt
  have hoff : v1.ownBlock ≠ some h := fun e => by
    rcases st h e with h1 | h1
    · exact c.off h1
    · omega
  have hm : Mod (RHb h v) w w2 := Mod.trans (n.mono fun _ _ e => .inl e) m fun _ _ e => .inr e
  exact ⟨⟨hb, own_mod m own (fun k hk e => hoff (by rw [hk, e])), hoff, c.bh, c.cx.mod hm fun b _ e => c.at_ e⟩, hm, st⟩
theorem Kr.blk {t' : WT} {o : Obj} {b : Nat} (k : Kr w base p h v w' v' t') (hb : w.heap[b]? = some o) (hn : ¬ RHb h v b) : w'.heap[b]? = some o := k.mod.blk hb hn
theorem Kr.hid {t' : WT} (k : Kr w base p h v w' v' t') {b : Nat} (hb : b < w.heap.size) (hn : ¬ RHb h v b) : ¬ RHb h v' b := by
  rintro (e | e)
  · rcases k.st b e.symm with h1 | h1
    · exact hn (.inl h1.symm)
    · omega
  · exact hn (.inr e)
theorem Kr.old {t' : WT} (c : Ri w base p h v t) (k : Kr w base p h v w' v' t') : Mod (fun b => base ≤ b) w w' := k.mod.mono fun b _ e => c.at_ e
end
theorem rmust_ok (base : Nat) (p : Po) (h : Nat) (v : Value) (t : WT) (is : Bool) (w : World) (c : Ri w base p h v t) :
    Calls Tryd.prog 54 #[.pointer (some ⟨h, 0, none⟩), .bool is] w fun e w' => e = .returned (.tuple #[]) ∧ Kr w base p h v w' v (t.1, t.2 || !is) := by
  refine enter ok Tryd.func54 rfl rfl rfl ?_
  have hb := c.blk
  refine Exists.intro t.2 (And.intro (cellB hb rfl) ?_)
  refine if_ (fun hx => ?_) (fun hx => ?_)
  · refine And.intro ⟨_, cellB hb rfl⟩ (And.intro (fzB hb _) (force_ ?_))
    refine stK hb (show (2 : Nat) < 3 by decide) ?_
    intro w1 hb1 m1 s1
    rw [hx, Bool.true_or]
    exact ⟨rfl, c.set m1 hb1⟩
  · refine And.intro ⟨_, cellB hb rfl⟩ (And.intro (fzB hb _) (force_ ?_))
    refine stK hb (show (2 : Nat) < 3 by decide) ?_
    intro w1 hb1 m1 s1
    rw [hx, Bool.false_or]
    exact ⟨rfl, c.set m1 hb1⟩
theorem own_le' {w : World} {b0 b1 n : Nat} {v : Value} {e : TypeId} {sz : Nat} {cs : List Value} (h : w.ownsRow b1 e sz v n cs) (hb : b0 ≤ b1) : w.ownsRow b0 e sz v n cs := by
  refine ⟨h.1, ?_⟩
  rcases h.2 with h' | ⟨g, cap, cur, h1, h2, h3⟩
  · exact .inl h'
  · exact .inr ⟨g, cap, cur, h1, Nat.le_trans hb h2, h3⟩
theorem stayed_fresh {w w' : World} {v v' : Value} {base n : Nat} {xs : List Value} {e : TypeId} {size : Nat} (o : w'.ownsRow w.heap.size e size v' n xs) : stayed w v v' := fun b hb => .inr (o.lt b hb).1
theorem ru_ok (base : Nat) (p : Po) (h : Nat) (v : Value) (t : WT) (k : Nat) (C : Option Addr) (q qc : Nat) (zs : List Int) (w : World) (c : Ri w base p h v t) (hz : Row w C (ivs zs)) (hq : q = zs.length) (hb : ∀ z ∈ zs, -9223372036854775808 ≤ z ∧ z ≤ 9223372036854775807) (hm : t.1.length + 8 * zs.length ≤ 140737488355328) :
    Calls Tryd.prog 52 #[.pointer (some ⟨h, 0, none⟩), .int .i64 (k : Int), .slice C q qc] w fun e w' => e = .returned (.tuple #[]) ∧ ∃ v', Kr w base p h v w' v' (noteU t k zs) := by
  refine enter ok Tryd.func52 rfl rfl rfl ?_
  obtain ⟨A, cA, rfl, hc1, hc2, rowA, _⟩ := own_slice c.own
  obtain ⟨er, her⟩ : ∃ er, er = allErr (k : Int) false zs := ⟨_, rfl⟩
  have hg : (!decide (er = 0)) = !good (k : Int) false zs := by rw [her]; exact allErr_good (k : Int) zs
  refine seq_cut (σ := Option Addr × Nat) (fun s => [(0, .pointer (some ⟨h, 0, none⟩)), (6, .slice s.1 (allBs t.1 (k : Int) false zs).length s.2), (7, .int .i64 er)]) (fun s w' => New w w' ∧ (good (k : Int) false zs = true → w'.ownsRow w.heap.size 5 1 (.slice s.1 (allBs t.1 (k : Int) false zs).length s.2) (allBs t.1 (k : Int) false zs).length (bvs (allBs t.1 (k : Int) false zs))) ∧ (good (k : Int) false zs = false → s.1 = A ∧ s.2 = cA)) ?_ ?_
  rotate_left
  · intro K hK
    refine Exists.intro A (Exists.intro t.1.length (Exists.intro cA (And.intro (cellB c.blk rfl) ?_)))
    refine call_ (PutO_ok A cA t.1 (k : Int) false C q qc zs w rowA hc1 hc2 hz hq hb hm) ?_
    rintro e w1 ⟨A1, c1, rfl, n1, g1, g2⟩
    refine ⟨_, rfl, ?_⟩
    rw [← her]
    exact hK (A1, c1) _ _ ⟨rfl, rfl, rfl, trivial⟩ ⟨n1, g1, g2⟩
  rintro ⟨A1, c1⟩ w1 fr1 ⟨n1, g1, g2⟩
  dsimp only at g1 g2
  have c1' := c.new n1
  have hb1 := c1'.blk
  -- the row behind
  have own1 : w1.ownsRow base 5 1 (.slice A1 (allBs t.1 (k : Int) false zs).length c1) (allBs t.1 (k : Int) false zs).length (bvs (allBs t.1 (k : Int) false zs)) ∧ stayed w (.slice A t.1.length cA) (.slice A1 (allBs t.1 (k : Int) false zs).length c1) := by
    cases hgd : good (k : Int) false zs with
    | true =>
      have o := g1 hgd
      refine ⟨own_le' o c.bw, fun b hb => .inr (o.lt b hb).1⟩
    | false =>
      obtain ⟨rfl, rfl⟩ := g2 hgd
      have e : allBs t.1 (k : Int) false zs = t.1 := by unfold allBs; rw [hgd]; rfl
      rw [e]
      exact ⟨c1'.own, stayed.refl _ _⟩
  refine seq_cut (σ := Unit) (fun _ => [(0, .pointer (some ⟨h, 0, none⟩)), (7, .int .i64 er)]) (fun _ w' => Kr w base p h (.slice A t.1.length cA) w' (.slice A1 (allBs t.1 (k : Int) false zs).length c1) (allBs t.1 (k : Int) false zs, t.2)) ?_ ?_
  rotate_left
  · intro K hK
    refine And.intro ⟨_, cellB hb1 rfl⟩ (And.intro (fzB hb1 _) (force_ ?_))
    refine stK hb1 (show (1 : Nat) < 3 by decide) ?_
    intro w2 hb2 m2 s2
    exact hK () _ _ ⟨rfl, rfl, trivial⟩ (c.put (n1.mod.mono fun _ _ e => False.elim e) own1.1 own1.2 m2 hb2)
  rintro _ w2 fr2 k2
  have hb2 := k2.ri.blk
  have fin : ∀ {w3 : World} {b : Bool}, b = (t.2 || !good (k : Int) false zs) → Kr w2 base p h (.slice A1 (allBs t.1 (k : Int) false zs).length c1) w3 (.slice A1 (allBs t.1 (k : Int) false zs).length c1) (allBs t.1 (k : Int) false zs, b) → Kr w base p h (.slice A t.1.length cA) w3 (.slice A1 (allBs t.1 (k : Int) false zs).length c1) (noteU t k zs) := fun e k3 => by
    have := k2.then k3
    rw [e] at this
    exact this
  refine Exists.intro t.2 (And.intro (cellB hb2 rfl) ?_)
  refine if_ (fun hx => ?_) (fun hx => ?_)
  · refine And.intro ⟨_, cellB hb2 rfl⟩ (And.intro (fzB hb2 _) (force_ ?_))
    refine stK hb2 (show (2 : Nat) < 3 by decide) ?_
    intro w3 hb3 m3 s3
    exact ⟨rfl, _, fin (by rw [hx, Bool.true_or]) (k2.ri.set m3 hb3)⟩
  · refine And.intro ⟨_, cellB hb2 rfl⟩ (And.intro (fzB hb2 _) (force_ ?_))
    refine stK hb2 (show (2 : Nat) < 3 by decide) ?_
    intro w3 hb3 m3 s3
    exact ⟨rfl, _, fin (by rw [hx, Bool.false_or, ← hg]) (k2.ri.set m3 hb3)⟩

end Go.Proofs.YtdcaafldnbcdkaaDoor.Class

/-! ### KRef2 -/
namespace Go.Proofs.YtdcaafldnbcdkaaDoor.Class
open Go Go.Proofs.YtdcaafldnbcdkaaDoor Go.Proofs.YtdcaafldnbcdkaaDoor.Eng Go.Proofs Go.Proofs.YtdcaafldnbcdkaaDoor.Word Go.Proofs.YtdcaafldnbcdkaaDoor.Fmt
open Go.Proofs.YtdcaafldnbcdkaaDoor.Pool (Ent at_ poolF strV entC entV EntOk Pl OkPool both own_low tagAt)
set_option maxRecDepth 10000

theorem bare_of {l : List Ent} (hO : OkPool l) {i : Nat} (hi : i < l.length) (ht : l[i].tag ≠ 0) : l[i] = Pool.bare l[i] := by
  obtain ⟨_, hf⟩ := Pool.tag_right hO.1 hi (by rw [Pool.at_lt hi]; exact ht)
  unfold Pool.fits at hf
  rw [Bool.and_eq_true, decide_eq_true_eq, Pool.at_lt hi] at hf
  exact hf.1
theorem utf_is {l : List Ent} (hO : OkPool l) {i : Nat} (hi : i < l.length) (s : List UInt8) : decide (l[i] = (⟨1, s, 0, 0, 0⟩ : Ent)) = utfP l[i] s := by
  unfold utfP
  by_cases h1 : l[i].tag = 1
  · have hb := bare_of hO hi (by rw [h1]; decide)
    unfold Pool.bare at hb
    rw [if_pos h1] at hb
    rw [decide_eq_true h1, Bool.true_and]
    by_cases h2 : l[i].text = s
    · rw [decide_eq_true h2]
      refine decide_eq_true ?_
      rw [hb, h1, h2]
    · rw [decide_eq_false h2]
      refine decide_eq_false fun e => h2 ?_
      rw [e]
  · rw [decide_eq_false h1, Bool.false_and]
    refine decide_eq_false fun e => h1 ?_
    rw [e]
theorem head_no {l : List Ent} (hO : OkPool l) : ∃ h : 0 < l.length, l[0] = Pool.e0 := by
  have hp := hO.1.pos
  refine ⟨by omega, ?_⟩
  have := hO.1.head
  have e : at_ l ((0 : Nat) : Int) = l[0] := Pool.at_lt (by omega)
  exact e.symm.trans this
theorem idx_one {P : Ent → List UInt8 → Bool} {l : List Ent} (hO : OkPool l) (s : List UInt8) (h0 : P Pool.e0 s = false) : 1 ≤ idx P l s := by
  obtain ⟨h, e⟩ := head_no hO
  exact idx_step h (Nat.zero_le _) (by rw [e]; exact h0)
theorem atN_here {P : Ent → List UInt8 → Bool} {l : List Ent} {s : List UInt8} {i : Nat} (hi : i < l.length) (h : i ≤ idx P l s) (hp : P l[i] s = true) : atN P l s = (i : Int) := by
  unfold atN findI
  rw [idx_here hi h hp, if_pos hi, if_neg (by omega)]
theorem atN_none {P : Ent → List UInt8 → Bool} {l : List Ent} {s : List UInt8} (h : l.length ≤ idx P l s) : atN P l s = 0 := by
  have e : findI P l s = -1 := by
    unfold findI
    rw [if_neg (by omega)]
  unfold atN
  rw [e]
  rfl
theorem rutf_ok (p : Po) (base : Nat) (s : List UInt8) (w : World) (c : Cx w base p) (hO : OkPool p.l) :
    Calls Tryd.prog 85 #[p.v, strV s] w fun e w' => e = .returned (zi (atN utfP p.l s)) ∧ w' = w := by
  refine enter ok Tryd.func85 rfl rfl rfl ?_
  have hpos := hO.1.pos
  have hmax := hO.2
  refine den_loop (σ := Nat) (fun i => [(0, p.v), (1, strV s), (5, zi (i : Int))]) (fun m i wl => m + i = p.l.length ∧ 1 ≤ i ∧ i ≤ idx utfP p.l s ∧ wl = w) (p.l.length - 1) 1 ⟨rfl, rfl, rfl, trivial⟩ ⟨by omega, Nat.le_refl _, idx_one hO s rfl, rfl⟩ ?_
  rintro m i wl frl ⟨hfuel, h1, hno, hwl⟩
  obtain rfl := hwl.symm
  refine if_p (fun hlt => ?_) (fun hge => ?_)
  · replace hlt : (i : Int) < (p.l.length : Int) := hlt
    have hi : i < p.l.length := by omega
    obtain ⟨m, rfl⟩ : ∃ m', m = m' + 1 := ⟨m - 1, by omega⟩
    obtain ⟨a, ea, hok, hc⟩ := c.pl.at_ hi
    rw [Pool.at_lt hi] at hok hc
    refine And.intro (by omega) (And.intro hlt ?_)
    refine some_at ea ?_
    refine loadN_row (vs := entC p.l[i]) (by rw [Int.toNat_natCast]; exact hc) rfl ?_
    refine Pool.ent_eql (p := p.l[i]) (q := ⟨1, s, 0, 0, 0⟩) rfl rfl rfl ?_
    have hu := utf_is hO hi s
    refine if_p (fun he => ?_) (fun he => ?_)
    · rw [decide_eq_true he] at hu
      rw [atN_here hi hno hu.symm]
      exact ⟨rfl, rfl⟩
    · rw [decide_eq_false he] at hu
      have inc : Value.int .i64 (IntKind.i64.wrap ((i : Int) + 1)) = .int .i64 ((i + 1 : Nat) : Int) := by
        rw [wrap_i64 (by omega) (by omega)]
        rfl
      exact ⟨m, i + 1, by omega, ⟨rfl, rfl, inc, trivial⟩, by omega, by omega, idx_step hi hno hu.symm, rfl⟩
  · replace hge : ¬ (i : Int) < (p.l.length : Int) := hge
    rw [atN_none (by omega)]
    exact ⟨rfl, rfl⟩
theorem rclass_ok (p : Po) (base : Nat) (s : List UInt8) (w : World) (c : Cx w base p) (hO : OkPool p.l) :
    Calls Tryd.prog 84 #[p.v, strV s] w fun e w' => e = .returned (zi (atN (clsP p.l) p.l s)) ∧ w' = w := by
  refine enter ok Tryd.func84 rfl rfl rfl ?_
  have hpos := hO.1.pos
  have hmax := hO.2
  refine den_loop (σ := Nat) (fun i => [(0, p.v), (1, strV s), (5, zi (i : Int))]) (fun m i wl => m + i = p.l.length ∧ 1 ≤ i ∧ i ≤ idx (clsP p.l) p.l s ∧ wl = w) (p.l.length - 1) 1 ⟨rfl, rfl, rfl, trivial⟩ ⟨by omega, Nat.le_refl _, idx_one hO s rfl, rfl⟩ ?_
  rintro m i wl frl ⟨hfuel, h1, hno, hwl⟩
  obtain rfl := hwl.symm
  refine if_p (fun hlt => ?_) (fun hge => ?_)
  · replace hlt : (i : Int) < (p.l.length : Int) := hlt
    have hi : i < p.l.length := by omega
    obtain ⟨m, rfl⟩ : ∃ m', m = m' + 1 := ⟨m - 1, by omega⟩
    have inc : Value.int .i64 (IntKind.i64.wrap ((i : Int) + 1)) = .int .i64 ((i + 1 : Nat) : Int) := by
      rw [wrap_i64 (by omega) (by omega)]
      rfl
    obtain ⟨a, ea, hok, hc⟩ := c.pl.at_ hi
    rw [Pool.at_lt hi] at hok hc
    refine And.intro (by omega) (And.intro hlt ?_)
    refine some_at ea ?_
    refine Exists.intro p.l[i].tag (And.intro (by rw [Int.toNat_natCast]; exact hc 0 _ rfl) ?_)
    have hno' : clsP p.l p.l[i] s = false → i + 1 ≤ idx (clsP p.l) p.l s := fun h => idx_step hi hno h
    refine if_p (fun h7 => ?_) (fun h7 => ?_)
    · replace h7 : p.l[i].tag = 7 := h7
      have h2 := class_in hO i hi h7
      have hi2 : p.l[i].a.toNat < p.l.length := by omega
      obtain ⟨a2, ea2, _, hc2⟩ := c.pl.at_ hi2
      have e1 : at_ p.l ((p.l[i].a.toNat : Nat) : Int) = at_ p.l p.l[i].a := by rw [Int.toNat_of_nonneg h2.1]
      rw [e1] at hc2
      refine And.intro (by omega) (And.intro hlt ?_)
      refine some_at ea ?_
      refine Exists.intro p.l[i].a (And.intro (by rw [Int.toNat_natCast]; exact hc 3 _ rfl) ?_)
      refine And.intro h2.1 (And.intro h2.2 ?_)
      refine some_at ea2 ?_
      refine Exists.intro (⟨(at_ p.l p.l[i].a).text.toArray⟩ : ByteArray) (And.intro (hc2 1 _ rfl) ?_)
      have hcl : clsP p.l p.l[i] s = decide ((at_ p.l p.l[i].a).text = s) := by
        unfold clsP
        rw [decide_eq_true h7, Bool.true_and]
      refine if_ (fun he => ?_) (fun he => ?_)
      · rw [Base.same_iff] at he
        rw [atN_here hi hno (hcl.trans he)]
        exact ⟨rfl, rfl⟩
      · rw [Base.same_iff] at he
        exact ⟨m, i + 1, by omega, ⟨rfl, rfl, inc, trivial⟩, by omega, by omega, hno' (hcl.trans he), rfl⟩
    · replace h7 : ¬ p.l[i].tag = 7 := h7
      refine ⟨m, i + 1, by omega, ⟨rfl, rfl, inc, trivial⟩, by omega, by omega, hno' ?_, rfl⟩
      unfold clsP
      rw [decide_eq_false h7, Bool.false_and]
  · replace hge : ¬ (i : Int) < (p.l.length : Int) := hge
    rw [atN_none (by omega)]
    exact ⟨rfl, rfl⟩
/-- Numbers of a block of their own. -/
theorem ruL_ok (base : Nat) (p : Po) (h : Nat) (v : Value) (t : WT) (k : Nat) (zs : List Int) (n : Nat) (w : World) (c : Ri w base p h v t) (hn : n = zs.length) (hb : ∀ z ∈ zs, -9223372036854775808 ≤ z ∧ z ≤ 9223372036854775807) (hm : t.1.length + 8 * zs.length ≤ 140737488355328) :
    Calls Tryd.prog 52 #[.pointer (some ⟨h, 0, none⟩), .int .i64 (k : Int), .slice (some ⟨w.heap.size, 0, none⟩) n n] (w.alloc (.cells (ivs zs).toArray 3)) fun e w' => e = .returned (.tuple #[]) ∧ ∃ v', Kr w base p h v w' v' (noteU t k zs) := by
  have n1 := New.alloc w (.cells (ivs zs).toArray 3)
  refine (ru_ok base p h v t k (some ⟨w.heap.size, 0, none⟩) n n zs _ (c.new n1) (row_alloc w (ivs zs) _ _) hn hb hm).mono ?_
  rintro e w' ⟨rfl, v', k'⟩
  exact ⟨rfl, v', ((Kr.refl c).new n1).then k'⟩
theorem atN_i64 {P : Ent → List UInt8 → Bool} {l : List Ent} {s : List UInt8} (h : l.length ≤ 1024) : ∀ z ∈ [atN P l s], -9223372036854775808 ≤ z ∧ z ≤ 9223372036854775807 := fun z hz => by
  rw [List.mem_singleton.1 hz]
  unfold atN findI
  split <;> split <;> omega
theorem atN_pos {P : Ent → List UInt8 → Bool} {l : List Ent} {s : List UInt8} : decide (0 < atN P l s) = decide (0 < findI P l s) := by
  unfold atN
  split
  · rw [decide_eq_false (by decide), decide_eq_false (by omega)]
  · rfl
theorem rwutf_ok (base : Nat) (p : Po) (h : Nat) (v : Value) (t : WT) (s : List UInt8) (w : World) (c : Ri w base p h v t) (hO : OkPool p.l) (hm : t.1.length ≤ 1000000000) :
    Calls Tryd.prog 55 #[.pointer (some ⟨h, 0, none⟩), strV s] w fun e w' => e = .returned (.tuple #[]) ∧ ∃ v' t', Kr w base p h v w' v' t' ∧ Wri (utfT p.l) 2 t s t' := by
  refine enter ok Tryd.func55 rfl rfl rfl ?_
  refine seq_cut (σ := Unit) (fun _ => [(0, .pointer (some ⟨h, 0, none⟩)), (1, strV s)]) (fun _ w' => Kr w base p h v w' v (t.1, t.2 || !decide (0 < findI utfP p.l s))) ?_ ?_
  rotate_left
  · intro K hK
    refine Exists.intro p.A (Exists.intro p.l.length (Exists.intro p.c (And.intro (cellB c.blk rfl) ?_)))
    refine call_ (rutf_ok p base s w c.cx hO) ?_
    rintro e w1 ⟨rfl, hw1⟩
    obtain rfl := hw1.symm
    refine ⟨_, rfl, ?_⟩
    refine call_ (rmust_ok base p h v t (decide (0 < atN utfP p.l s)) w c) ?_
    rintro e w2 ⟨rfl, k2⟩
    refine ⟨_, rfl, ?_⟩
    rw [atN_pos] at k2
    exact hK () _ _ ⟨rfl, rfl, trivial⟩ k2
  rintro _ w1 fr1 k1
  refine Exists.intro p.A (Exists.intro p.l.length (Exists.intro p.c (And.intro (cellB k1.ri.blk rfl) ?_)))
  refine call_ (rutf_ok p base s w1 k1.ri.cx hO) ?_
  rintro e w2 ⟨rfl, hw2⟩
  obtain rfl := hw2.symm
  refine ⟨_, rfl, ?_⟩
  refine call_ (ruL_ok base p h v _ 2 [atN utfP p.l s] 1 w1 k1.ri rfl (atN_i64 hO.2) (by simp; omega)) ?_
  rintro e w3 ⟨rfl, v3, k3⟩
  refine ⟨_, rfl, ?_⟩
  exact ⟨rfl, v3, _, k1.then k3, Wri.ref rfl rfl⟩
theorem rwclass_ok (base : Nat) (p : Po) (h : Nat) (v : Value) (t : WT) (s : List UInt8) (w : World) (c : Ri w base p h v t) (hO : OkPool p.l) (hm : t.1.length ≤ 1000000000) :
    Calls Tryd.prog 53 #[.pointer (some ⟨h, 0, none⟩), strV s] w fun e w' => e = .returned (.tuple #[]) ∧ ∃ v' t', Kr w base p h v w' v' t' ∧ Wri (clsT p.l) 2 t s t' := by
  refine enter ok Tryd.func53 rfl rfl rfl ?_
  refine seq_cut (σ := Unit) (fun _ => [(0, .pointer (some ⟨h, 0, none⟩)), (1, strV s)]) (fun _ w' => Kr w base p h v w' v (t.1, t.2 || !decide (0 < findI (clsP p.l) p.l s))) ?_ ?_
  rotate_left
  · intro K hK
    refine Exists.intro p.A (Exists.intro p.l.length (Exists.intro p.c (And.intro (cellB c.blk rfl) ?_)))
    refine call_ (rclass_ok p base s w c.cx hO) ?_
    rintro e w1 ⟨rfl, hw1⟩
    obtain rfl := hw1.symm
    refine ⟨_, rfl, ?_⟩
    refine call_ (rmust_ok base p h v t (decide (0 < atN (clsP p.l) p.l s)) w c) ?_
    rintro e w2 ⟨rfl, k2⟩
    refine ⟨_, rfl, ?_⟩
    rw [atN_pos] at k2
    exact hK () _ _ ⟨rfl, rfl, trivial⟩ k2
  rintro _ w1 fr1 k1
  refine Exists.intro p.A (Exists.intro p.l.length (Exists.intro p.c (And.intro (cellB k1.ri.blk rfl) ?_)))
  refine call_ (rclass_ok p base s w1 k1.ri.cx hO) ?_
  rintro e w2 ⟨rfl, hw2⟩
  obtain rfl := hw2.symm
  refine ⟨_, rfl, ?_⟩
  refine call_ (ruL_ok base p h v _ 2 [atN (clsP p.l) p.l s] 1 w1 k1.ri rfl (atN_i64 hO.2) (by simp; omega)) ?_
  rintro e w3 ⟨rfl, v3, k3⟩
  refine ⟨_, rfl, ?_⟩
  exact ⟨rfl, v3, _, k1.then k3, Wri.ref rfl rfl⟩

end Go.Proofs.YtdcaafldnbcdkaaDoor.Class
