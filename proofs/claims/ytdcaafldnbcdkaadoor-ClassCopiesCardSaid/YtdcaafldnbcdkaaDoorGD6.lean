/- The texts KCopies behind one another, merged by mrg.py; each says in its own place what it proves. -/
import Derived.Test.YtdcaafldnbcdkaaDoorGD5

/-! ### KCopies -/
namespace Go.Proofs.YtdcaafldnbcdkaaDoor.Class
open Go Go.Proofs.YtdcaafldnbcdkaaDoor Go.Proofs.YtdcaafldnbcdkaaDoor.Eng Go.Proofs Go.Proofs.YtdcaafldnbcdkaaDoor.Word Go.Proofs.YtdcaafldnbcdkaaDoor.Fmt
open Go.Proofs.YtdcaafldnbcdkaaDoor.Pool (Ent at_ poolF strV entC entV EntOk Pl OkPool both own_low tagAt)
set_option maxRecDepth 10000

/-- Nothing is changed of what a copy's shape hangs on. -/
def Soft (w w' : World) : Prop := ∀ (b : Nat) (arr : Array Value) (t : TypeId), w.heap[b]? = some (.cells arr t (0, 0)) → ∃ arr', w'.heap[b]? = some (.cells arr' t (0, 0)) ∧ arr'.size = arr.size ∧ (t = 49 → arr' = arr) ∧ (t = 36 → ∀ j, j % 8 ≠ 1 → arr'[j]? = arr[j]?)
theorem Soft.refl (w : World) : Soft w w := fun _ arr _ h => ⟨arr, h, rfl, fun _ => rfl, fun _ _ _ => rfl⟩
theorem Soft.trans {a b c : World} (h : Soft a b) (k : Soft b c) : Soft a c := fun g arr t e => by
  obtain ⟨a1, e1, s1, m1, n1⟩ := h g arr t e
  obtain ⟨a2, e2, s2, m2, n2⟩ := k g a1 t e1
  exact ⟨a2, e2, s2.trans s1, fun ht => (m2 ht).trans (m1 ht), fun ht j hj => (n2 ht j hj).trans (n1 ht j hj)⟩
theorem Soft.new {a b : World} (n : New a b) : Soft a b := fun _ arr _ h => ⟨arr, n.blk h, rfl, fun _ => rfl, fun _ _ _ => rfl⟩
theorem Soft.set {a b : World} {g j : Nat} {arr : Array Value} {t : TypeId} {v : Value} (ha : a.heap[g]? = some (.cells arr t (0, 0))) (hb : b.heap[g]? = some (.cells (arr.setIfInBounds j v) t (0, 0))) (m : Mod (fun b => b = g) a b) (h1 : t ≠ 49) (h2 : t = 36 → j % 8 = 1) : Soft a b := fun g' arr' t' h => by
  by_cases hg : g' = g
  · subst hg
    rw [ha] at h
    cases h
    refine ⟨_, hb, by simp, fun ht => absurd ht h1, fun ht q hq => ?_⟩
    rw [Array.getElem?_setIfInBounds, if_neg]
    intro e
    rw [← e] at hq
    exact hq (h2 ht)
  · exact ⟨arr', m.blk h hg, rfl, fun _ => rfl, fun _ _ _ => rfl⟩
section
variable {w wl : World} {T : Nat → Prop} {t : TypeId} {sz n : Nat} {A : Option Addr} {α : Type} {R : RepT α} {xs : List α} {c : Nat}
/-- A place to write to. -/
theorem Wrt.at_ (h : Wrt w (fun b => ¬ T b) t sz A n) (s : Soft w wl) {i k : Nat} (hi : i < n) (hk : k < sz) : ∃ g arr, A = some ⟨g, 0, none⟩ ∧ wl.heap[g]? = some (.cells arr t (0, 0)) ∧ i * sz + k < arr.size ∧ T g := by
  obtain ⟨g, cur, h1, h2, h3, h4⟩ := h (by omega)
  obtain ⟨arr, e1, e2, _⟩ := s g cur t h2
  have h5 : (i + 1) * sz ≤ n * sz := Nat.mul_le_mul_right _ hi
  rw [Nat.succ_mul] at h5
  exact ⟨g, arr, h1, e1, by omega, Classical.not_not.1 h4⟩
theorem LO.at_ (hR : RepOk R sz) (hsz : 0 < sz) (h : LO t sz R w (fun b => ¬ T b) (.slice A xs.length c) xs) {i : Nat} (hi : i < xs.length) : ∃ g cur cs, A = some ⟨g, 0, none⟩ ∧ w.heap[g]? = some (.cells cur t (0, 0)) ∧ R w (fun b => ¬ T b) cs xs[i] ∧ ∀ k u, cs[k]? = some u → cur[i * sz + k]? = some u := by
  obtain ⟨_, _, he, _, gx⟩ := h.rep.get hR hsz
  cases he
  obtain ⟨a, cs, ea, hx, hc⟩ := gx i hi
  obtain ⟨g, cur, h1, h2, h3, h4⟩ := h.wrt _ _ rfl (by omega)
  rw [h1] at ea
  cases ea
  refine ⟨g, cur, cs, h1, h2, hx, fun k u hu => ?_⟩
  have := hc k u hu
  rw [add_lit0, add_lit0, Nat.zero_add, cell_of_row _ _ _ _ _ _ h2] at this
  exact this
end
theorem small_weigh {c : Cls} (h : weigh c < 5000) : Small c := by
  have key : ∀ {α : Type} (f : α → Nat) (l : List α) (x : α), x ∈ l → f x ≤ csum f l := fun f l x hx => by
    induction l with
    | nil => cases hx
    | cons y r ih =>
      rw [csum_cons]
      rcases List.mem_cons.1 hx with rfl | hx
      · omega
      · have := ih hx
        omega
  unfold weigh at h
  refine ⟨by omega, by omega, by omega, fun y hy => ?_⟩
  have h1 : y.code.bytes.length + y.code.hands.length + csum wMp y.code.maps ≤ csum wMth c.methods := key wMth c.methods y hy
  have h2 : y.code.maps.length ≤ csum wMp y.code.maps := by
    have : ∀ l : List Mp, l.length ≤ csum wMp l := fun l => by
      induction l with
      | nil => exact Nat.le_refl _
      | cons p r ih =>
        rw [csum_cons, List.length_cons]
        show r.length + 1 ≤ (1 + p.locals.length + p.stack.length) + csum wMp r
        omega
    exact this _
  refine ⟨by omega, by omega, by omega, fun p hp => ?_⟩
  have h3 : 1 + p.locals.length + p.stack.length ≤ csum wMp y.code.maps := key wMp y.code.maps p hp
  exact ⟨by omega, by omega⟩
theorem CopyS_ok (cs0 : List Value) (m : Cls) (S : Nat → Prop) (w : World) (hx : clsR w S cs0 m) (hs : Small m) :
    Calls Tryd.prog 11 #[.agg cs0.toArray] w fun e w' => ∃ P2 p2 F2 f2 M2 m2, e = .returned (.agg (List.toArray [.slice P2 m.pool.length p2, strV m.name, strV m.super, .slice F2 m.fields.length f2, .slice M2 m.methods.length m2])) ∧ clsO w' (fun b => b < w.heap.size) [.slice P2 m.pool.length p2, strV m.name, strV m.super, .slice F2 m.fields.length f2, .slice M2 m.methods.length m2] m ∧ New w w' := by
  refine (Copy_ok cs0 m S w hx hs).mono ?_
  rintro e w' ⟨cs, rfl, hc, n⟩
  have hc0 := hc
  obtain ⟨_, _, _, rfl, l1, l2, l3⟩ := hc
  obtain ⟨P2, p2, rfl, _⟩ := l1.rep.get entOk (by decide)
  obtain ⟨F2, f2, rfl, _⟩ := l2.rep.get fldOk (by decide)
  obtain ⟨M2, m2, rfl, _⟩ := l3.rep.get mthOOk (by decide)
  exact ⟨_, _, _, _, _, _, rfl, hc0, n⟩
theorem one_mp (z : Int) (A1 A2 : Option Addr) (n1 c1 n2 c2 : Nat) : ∀ u ∈ [zi z, Value.slice A1 n1 c1, Value.slice A2 n2 c2], u.oneCell' = true := fun u hu => by
  simp only [List.mem_cons, List.not_mem_nil, or_false] at hu
  rcases hu with rfl | rfl | rfl <;> rfl
theorem ClassCopies_ok (cs0 : List Value) (m : Cls) (S : Nat → Prop) (w : World) (hx : clsR w S cs0 m) (hf : fCls m) (hk : Kt w) :
    Calls Tryd.prog 4 #[.agg cs0.toArray] w fun e w' => e = .returned (.bool true) ∧ New w w' := by
  have hx0 := hx
  obtain ⟨_, _, _, rfl, lp, lf, lm⟩ := hx
  obtain ⟨A1, a1, rfl, _⟩ := lp.get entOk (by decide)
  obtain ⟨F1, f1, rfl, _⟩ := lf.get fldOk (by decide)
  obtain ⟨M1, m1, rfl, _⟩ := lm.get mthOk (by decide)
  have hG := hk.lt
  have hxw : ∀ {w' : World}, New w w' → clsR w' S [.slice A1 m.pool.length a1, strV m.name, strV m.super, .slice F1 m.fields.length f1, .slice M1 m.methods.length m1] m := fun n => clsOk.mod hx0 (n.mod.mono fun _ _ e => False.elim e)
  have hkw : ∀ {w' : World}, New w w' → Kt w' := fun n k h0 h5 => n.cell (hk k h0 h5)
  have hGw : ∀ {w' : World}, New w w' → 0 < w'.heap.size := fun n => by have := n.size; omega
  refine enter ok Tryd.func4 rfl rfl rfl ?_
  refine seq_cut (σ := Unit) (fun _ => [(1, .pointer (some ⟨w.heap.size, 0, none⟩))]) (fun _ w' => New w w' ∧ w'.heap[w.heap.size]? = some (.cells #[.slice A1 m.pool.length a1, strV m.name, strV m.super, .slice F1 m.fields.length f1, .slice M1 m.methods.length m1] 26 (0, 0))) ?_ ?_
  rotate_left
  · intro K hK
    exact hK () _ _ ⟨rfl, trivial⟩ ⟨New.alloc w _, heap_alloc_new w (.cells #[.slice A1 m.pool.length a1, strV m.name, strV m.super, .slice F1 m.fields.length f1, .slice M1 m.methods.length m1] 26)⟩
  rintro _ w1 fr1 ⟨n1, hM1⟩
  refine seq_cut (σ := Unit) (fun _ => [(1, .pointer (some ⟨w.heap.size, 0, none⟩))]) (fun _ w' => New w w' ∧ w'.heap[w.heap.size]? = some (.cells #[.slice A1 m.pool.length a1, strV m.name, strV m.super, .slice F1 m.fields.length f1, .slice M1 m.methods.length m1] 26 (0, 0))) ?_ ?_
  rotate_left
  · intro K hK
    refine call_ (works_ok w1 (hkw n1) (hGw n1)) ?_
    rintro e w2 ⟨rfl, n2⟩
    refine ⟨_, rfl, ?_⟩
    exact hK () _ _ ⟨rfl, trivial⟩ ⟨n1.trans n2, n2.blk hM1⟩
  rintro _ w2 fr2 ⟨n2, hM2⟩
  refine seq_cut (σ := Unit) (fun _ => [(1, .pointer (some ⟨w.heap.size, 0, none⟩))]) (fun _ w' => New w w' ∧ w'.heap[w.heap.size]? = some (.cells #[.slice A1 m.pool.length a1, strV m.name, strV m.super, .slice F1 m.fields.length f1, .slice M1 m.methods.length m1] 26 (0, 0)) ∧ Small m) ?_ ?_
  rotate_left
  · intro K hK
    refine loadN_row (vs := [.slice A1 m.pool.length a1, strV m.name, strV m.super, .slice F1 m.fields.length f1, .slice M1 m.methods.length m1]) (rowB hM2) rfl ?_
    refine call_ (light_ok [.slice A1 m.pool.length a1, strV m.name, strV m.super, .slice F1 m.fields.length f1, .slice M1 m.methods.length m1] m S w2 (hxw n2)) ?_
    rintro e w3 ⟨b, rfl, hb, n3⟩
    refine ⟨_, rfl, ?_⟩
    cases b with
    | false => exact ⟨rfl, n2.trans n3⟩
    | true =>
      exact hK () _ _ ⟨rfl, trivial⟩ ⟨n2.trans n3, n3.blk hM2, small_weigh (hb rfl).2⟩
  rintro _ w3 fr3 ⟨n3, hM3, hsm⟩
  have hM3d := (New.drew w3).blk hM3
  have hx3 := hxw (n3.trans (New.drew w3))
  have k0 : New w3.drew w3.drew := New.refl _
  have z0 : w3.drew.heap.size = w3.heap.size := rfl
  have w3z : w.heap.size < w3.heap.size := (Array.getElem?_eq_some_iff.1 hM3).1
  have fin : ∀ {Wd Wx W4 y2 : World} {ld lx D Y : Nat} {P2 : Option Addr} {p2 : Nat} {F2 : Option Addr} {f2 : Nat} {M2 : Option Addr} {m2 : Nat} {P3 : Option Addr} {p3 : Nat} {F3 : Option Addr} {f3 : Nat} {M3 : Option Addr} {m3 : Nat}, clsO Wd (fun b => b < ld) [.slice P2 m.pool.length p2, strV m.name, strV m.super, .slice F2 m.fields.length f2, .slice M2 m.methods.length m2] m → clsO Wx (fun b => b < lx) [.slice P3 m.pool.length p3, strV m.name, strV m.super, .slice F3 m.fields.length f3, .slice M3 m.methods.length m3] m → New Wd W4 → New Wx W4 → New w3.drew W4 → Mod (fun b => b = D ∨ b = Y) W4 y2 → y2.heap[D]? = some (.cells #[.slice P2 m.pool.length p2, strV m.name, strV m.super, .slice F2 m.fields.length f2, .slice M2 m.methods.length m2] 26 (0, 0)) → y2.heap[Y]? = some (.cells #[.slice P3 m.pool.length p3, strV m.name, strV m.super, .slice F3 m.fields.length f3, .slice M3 m.methods.length m3] 26 (0, 0)) → w3.heap.size ≤ ld → ld ≤ Wd.heap.size → Wd.heap.size ≤ lx → (D < ld ∨ Wd.heap.size ≤ D) → (Y < ld ∨ Wd.heap.size ≤ Y) → (D < lx ∨ Wx.heap.size ≤ D) → (Y < lx ∨ Wx.heap.size ≤ Y) → w3.heap.size ≤ D → w3.heap.size ≤ Y → ∃ (T : Nat → Prop) (P2 : Option Addr) (p2 : Nat) (F2 : Option Addr) (f2 : Nat) (M2 : Option Addr) (m2 : Nat) (P3 : Option Addr) (p3 : Nat) (F3 : Option Addr) (f3 : Nat) (M3 : Option Addr) (m3 : Nat), New w y2 ∧ y2.heap[w.heap.size]? = some (.cells #[.slice A1 m.pool.length a1, strV m.name, strV m.super, .slice F1 m.fields.length f1, .slice M1 m.methods.length m1] 26 (0, 0)) ∧ y2.heap[D]? = some (.cells #[.slice P2 m.pool.length p2, strV m.name, strV m.super, .slice F2 m.fields.length f2, .slice M2 m.methods.length m2] 26 (0, 0)) ∧ y2.heap[Y]? = some (.cells #[.slice P3 m.pool.length p3, strV m.name, strV m.super, .slice F3 m.fields.length f3, .slice M3 m.methods.length m3] 26 (0, 0)) ∧ clsO y2 (fun b => ¬ T b) [.slice P2 m.pool.length p2, strV m.name, strV m.super, .slice F2 m.fields.length f2, .slice M2 m.methods.length m2] m ∧ clsR y2 T [.slice P3 m.pool.length p3, strV m.name, strV m.super, .slice F3 m.fields.length f3, .slice M3 m.methods.length m3] m ∧ ¬ T D ∧ ¬ T Y ∧ ∀ b, T b → w.heap.size < b ∧ b < y2.heap.size := by
    intro Wd Wx W4 y2 ld lx D Y P2 p2 F2 f2 M2 m2 P3 p3 F3 f3 M3 m3 hd hx nd nx n4 my hD hY c1 c2 c3 d1 d2 e1 e2 g1 g2
    have zz := nd.size
    have zy := my.size
    have w3z : w.heap.size < w3.heap.size := (Array.getElem?_eq_some_iff.1 hM3).1
    refine ⟨fun b => ld ≤ b ∧ b < Wd.heap.size, P2, p2, F2, f2, M2, m2, P3, p3, F3, f3, M3, m3, Mod.trans ((n3.trans (New.drew w3)).trans n4) my fun b hb e => by omega, my.blk (n4.blk hM3d) (by omega), hD, hY, ?_, ?_, by omega, by omega, fun b e => ⟨by omega, by omega⟩⟩
    · refine clsOOk.mod (clsOOk.mod (clsOOk.weak hd fun b hb e => ?_) (nd.mod.mono fun _ _ e => False.elim e)) (my.mono fun b _ e => ?_)
      · omega
      · rcases e with rfl | rfl <;> omega
    · have h1 := clsOOk.weak (S' := fun b => b < lx ∨ Wx.heap.size ≤ b) hx fun b hb e => by omega
      have h2 := clsOOk.mod (clsOOk.mod h1 (nx.mod.mono fun _ _ e => False.elim e)) (my.mono fun b _ e => by rcases e with rfl | rfl <;> omega)
      exact clsOk.weak (clsO_R h2) fun b hb e => .inl (by omega)
  refine seq_cut (σ := Nat × Nat) (fun t => [(1, .pointer (some ⟨w.heap.size, 0, none⟩)), (3, .pointer (some ⟨t.1, 0, none⟩)), (4, .pointer (some ⟨t.2, 0, none⟩))]) (fun t w' => ∃ (T : Nat → Prop) (P2 : Option Addr) (p2 : Nat) (F2 : Option Addr) (f2 : Nat) (M2 : Option Addr) (m2 : Nat) (P3 : Option Addr) (p3 : Nat) (F3 : Option Addr) (f3 : Nat) (M3 : Option Addr) (m3 : Nat), New w w' ∧ w'.heap[w.heap.size]? = some (.cells #[.slice A1 m.pool.length a1, strV m.name, strV m.super, .slice F1 m.fields.length f1, .slice M1 m.methods.length m1] 26 (0, 0)) ∧ w'.heap[t.1]? = some (.cells #[.slice P2 m.pool.length p2, strV m.name, strV m.super, .slice F2 m.fields.length f2, .slice M2 m.methods.length m2] 26 (0, 0)) ∧ w'.heap[t.2]? = some (.cells #[.slice P3 m.pool.length p3, strV m.name, strV m.super, .slice F3 m.fields.length f3, .slice M3 m.methods.length m3] 26 (0, 0)) ∧ clsO w' (fun b => ¬ T b) [.slice P2 m.pool.length p2, strV m.name, strV m.super, .slice F2 m.fields.length f2, .slice M2 m.methods.length m2] m ∧ clsR w' T [.slice P3 m.pool.length p3, strV m.name, strV m.super, .slice F3 m.fields.length f3, .slice M3 m.methods.length m3] m ∧ ¬ T t.1 ∧ ¬ T t.2 ∧ ∀ b, T b → w.heap.size < b ∧ b < w'.heap.size) ?_ ?_
  rotate_left
  · intro K hK
    refine draw_ (w := w3) ok (.q 0 (.q 2 (.br (.br (.e 1 (.br (.br (.e 3 (.br (.e 4 (.e 5 (.e 6 (.e 7 .done)))) (.e 5 (.e 4 (.e 6 (.e 7 .done)))))) (.e 4 (.br (.e 3 (.e 5 (.e 6 (.e 7 .done)))) (.e 5 (.e 3 (.e 6 (.e 7 .done))))))) (.e 5 (.br (.e 3 (.e 4 (.e 6 (.e 7 .done)))) (.e 4 (.e 3 (.e 6 (.e 7 .done)))))))) (.e 4 (.br (.e 1 (.br (.e 3 (.e 5 (.e 6 (.e 7 .done)))) (.e 5 (.e 3 (.e 6 (.e 7 .done)))))) (.e 5 (.e 1 (.e 3 (.e 6 (.e 7 .done)))))))) (.e 5 (.br (.e 1 (.br (.e 3 (.e 4 (.e 6 (.e 7 .done)))) (.e 4 (.e 3 (.e 6 (.e 7 .done)))))) (.e 4 (.e 1 (.e 3 (.e 6 (.e 7 .done)))))))))) [7] (fun w'' : World => w''.heap[w.heap.size]? = some (.cells #[.slice A1 m.pool.length a1, strV m.name, strV m.super, .slice F1 m.fields.length f1, .slice M1 m.methods.length m1] 26 (0, 0))) (by kernel_rfl) (by kernel_rfl) (by kernel_rfl) (by kernel_rfl) (by kernel_rfl) hM3d ?_
    refine loadNC_row (vs := [.slice A1 m.pool.length a1, strV m.name, strV m.super, .slice F1 m.fields.length f1, .slice M1 m.methods.length m1]) (fun j u hu w'' hw => rowB hw j u hu) rfl ?_
    refine loadNC_row (vs := [.slice A1 m.pool.length a1, strV m.name, strV m.super, .slice F1 m.fields.length f1, .slice M1 m.methods.length m1]) (fun j u hu w'' hw => rowB hw j u hu) rfl ?_
    refine And.intro (And.intro ?_ ?_) ?_
    · refine call_ (CopyS_ok [.slice A1 m.pool.length a1, strV m.name, strV m.super, .slice F1 m.fields.length f1, .slice M1 m.methods.length m1] m S w3.drew (clsOk.mod hx3 (k0.mod.mono fun _ _ e => False.elim e)) hsm) ?_
      rintro e v1 ⟨P2, p2, F2, f2, M2, m2, rfl, h1, n1⟩
      refine ⟨_, rfl, ?_⟩
      have k1 := k0.trans n1
      have z1 := n1.size
      refine Exists.intro (fun w'' : World => w''.heap[w.heap.size]? = some (.cells #[.slice A1 m.pool.length a1, strV m.name, strV m.super, .slice F1 m.fields.length f1, .slice M1 m.methods.length m1] 26 (0, 0))) ?_
      refine And.intro (fun _ h => h) ?_
      refine And.intro (k1.blk hM3d) ?_
      refine And.intro (And.intro ?_ ?_) ?_
      · refine call_ (CopyS_ok [.slice A1 m.pool.length a1, strV m.name, strV m.super, .slice F1 m.fields.length f1, .slice M1 m.methods.length m1] m S v1 (clsOk.mod hx3 (k1.mod.mono fun _ _ e => False.elim e)) hsm) ?_
        rintro e v2 ⟨P3, p3, F3, f3, M3, m3, rfl, h3, n2⟩
        refine ⟨_, rfl, ?_⟩
        have k2 := k1.trans n2
        have z2 := n2.size
        refine Exists.intro (fun w'' : World => w''.heap[w.heap.size]? = some (.cells #[.slice A1 m.pool.length a1, strV m.name, strV m.super, .slice F1 m.fields.length f1, .slice M1 m.methods.length m1] 26 (0, 0))) ?_
        refine And.intro (fun _ h => h) ?_
        refine And.intro (k2.blk hM3d) ?_
        refine And.intro ?_ ?_
        · have n3 := New.alloc v2 (.cells #[.slice none 0 0, .string ⟨#[]⟩, .string ⟨#[]⟩, .slice none 0 0, .slice none 0 0] 26)
          have hD := heap_alloc_new v2 (.cells #[.slice none 0 0, .string ⟨#[]⟩, .string ⟨#[]⟩, .slice none 0 0, .slice none 0 0] 26)
          have k3 := k2.trans n3
          have z3 : (v2.alloc (.cells #[.slice none 0 0, .string ⟨#[]⟩, .string ⟨#[]⟩, .slice none 0 0, .slice none 0 0] 26)).heap.size = v2.heap.size + 1 := by simp
          refine Exists.intro (fun w'' : World => w''.heap[w.heap.size]? = some (.cells #[.slice A1 m.pool.length a1, strV m.name, strV m.super, .slice F1 m.fields.length f1, .slice M1 m.methods.length m1] 26 (0, 0))) ?_
          refine And.intro (fun _ h => h) ?_
          refine And.intro (k3.blk hM3d) ?_
          have n4 := New.alloc (v2.alloc (.cells #[.slice none 0 0, .string ⟨#[]⟩, .string ⟨#[]⟩, .slice none 0 0, .slice none 0 0] 26)) (.cells #[.slice none 0 0, .string ⟨#[]⟩, .string ⟨#[]⟩, .slice none 0 0, .slice none 0 0] 26)
          have hY := heap_alloc_new (v2.alloc (.cells #[.slice none 0 0, .string ⟨#[]⟩, .string ⟨#[]⟩, .slice none 0 0, .slice none 0 0] 26)) (.cells #[.slice none 0 0, .string ⟨#[]⟩, .string ⟨#[]⟩, .slice none 0 0, .slice none 0 0] 26)
          have k4 := k3.trans n4
          have z4 : ((v2.alloc (.cells #[.slice none 0 0, .string ⟨#[]⟩, .string ⟨#[]⟩, .slice none 0 0, .slice none 0 0] 26)).alloc (.cells #[.slice none 0 0, .string ⟨#[]⟩, .string ⟨#[]⟩, .slice none 0 0, .slice none 0 0] 26)).heap.size = (v2.alloc (.cells #[.slice none 0 0, .string ⟨#[]⟩, .string ⟨#[]⟩, .slice none 0 0, .slice none 0 0] 26)).heap.size + 1 := by simp
          refine Exists.intro (fun w'' : World => w''.heap[w.heap.size]? = some (.cells #[.slice A1 m.pool.length a1, strV m.name, strV m.super, .slice F1 m.fields.length f1, .slice M1 m.methods.length m1] 26 (0, 0))) ?_
          refine And.intro (fun _ h => h) ?_
          refine And.intro (k4.blk hM3d) ?_
          have hDY : ¬ v2.heap.size = (v2.alloc (.cells #[.slice none 0 0, .string ⟨#[]⟩, .string ⟨#[]⟩, .slice none 0 0, .slice none 0 0] 26)).heap.size := by omega
          have hDM : ¬ w.heap.size = v2.heap.size := by omega
          refine And.intro rfl ?_
          refine storeN_all (vs := [.slice P2 m.pool.length p2, strV m.name, strV m.super, .slice F2 m.fields.length f2, .slice M2 m.methods.length m2]) ((n4).blk hD) rfl (one_cls5 _ _ _ _ _ _ _ _ _ _ _) ?_
          intro y1 hy1 my1 sy1
          refine Exists.intro (fun w'' : World => w''.heap[w.heap.size]? = some (.cells #[.slice A1 m.pool.length a1, strV m.name, strV m.super, .slice F1 m.fields.length f1, .slice M1 m.methods.length m1] 26 (0, 0))) ?_
          refine And.intro (fun _ h => h) ?_
          refine And.intro (my1.blk (k4.blk hM3d) hDM) ?_
          refine And.intro rfl ?_
          refine storeN_all (vs := [.slice P3 m.pool.length p3, strV m.name, strV m.super, .slice F3 m.fields.length f3, .slice M3 m.methods.length m3]) (my1.blk ((New.refl _).blk hY) (fun e => hDY e.symm)) rfl (one_cls5 _ _ _ _ _ _ _ _ _ _ _) ?_
          intro y2 hy2 my2 sy2
          exact hK (v2.heap.size, (v2.alloc (.cells #[.slice none 0 0, .string ⟨#[]⟩, .string ⟨#[]⟩, .slice none 0 0, .slice none 0 0] 26)).heap.size) _ _ ⟨rfl, rfl, rfl, trivial⟩ (fin h1 h3 (((n2).trans n3).trans n4) ((n3).trans n4) k4 (both (my1.mono fun _ _ e => .inl e) (my2.mono fun _ _ e => .inr e)) (my2.blk hy1 hDY) hy2 (by omega) (by omega) (by omega) (by omega) (by omega) (by omega) (by omega) (by omega) (by omega))
        · have n3 := New.alloc v2 (.cells #[.slice none 0 0, .string ⟨#[]⟩, .string ⟨#[]⟩, .slice none 0 0, .slice none 0 0] 26)
          have hY := heap_alloc_new v2 (.cells #[.slice none 0 0, .string ⟨#[]⟩, .string ⟨#[]⟩, .slice none 0 0, .slice none 0 0] 26)
          have k3 := k2.trans n3
          have z3 : (v2.alloc (.cells #[.slice none 0 0, .string ⟨#[]⟩, .string ⟨#[]⟩, .slice none 0 0, .slice none 0 0] 26)).heap.size = v2.heap.size + 1 := by simp
          refine Exists.intro (fun w'' : World => w''.heap[w.heap.size]? = some (.cells #[.slice A1 m.pool.length a1, strV m.name, strV m.super, .slice F1 m.fields.length f1, .slice M1 m.methods.length m1] 26 (0, 0))) ?_
          refine And.intro (fun _ h => h) ?_
          refine And.intro (k3.blk hM3d) ?_
          have n4 := New.alloc (v2.alloc (.cells #[.slice none 0 0, .string ⟨#[]⟩, .string ⟨#[]⟩, .slice none 0 0, .slice none 0 0] 26)) (.cells #[.slice none 0 0, .string ⟨#[]⟩, .string ⟨#[]⟩, .slice none 0 0, .slice none 0 0] 26)
          have hD := heap_alloc_new (v2.alloc (.cells #[.slice none 0 0, .string ⟨#[]⟩, .string ⟨#[]⟩, .slice none 0 0, .slice none 0 0] 26)) (.cells #[.slice none 0 0, .string ⟨#[]⟩, .string ⟨#[]⟩, .slice none 0 0, .slice none 0 0] 26)
          have k4 := k3.trans n4
          have z4 : ((v2.alloc (.cells #[.slice none 0 0, .string ⟨#[]⟩, .string ⟨#[]⟩, .slice none 0 0, .slice none 0 0] 26)).alloc (.cells #[.slice none 0 0, .string ⟨#[]⟩, .string ⟨#[]⟩, .slice none 0 0, .slice none 0 0] 26)).heap.size = (v2.alloc (.cells #[.slice none 0 0, .string ⟨#[]⟩, .string ⟨#[]⟩, .slice none 0 0, .slice none 0 0] 26)).heap.size + 1 := by simp
          refine Exists.intro (fun w'' : World => w''.heap[w.heap.size]? = some (.cells #[.slice A1 m.pool.length a1, strV m.name, strV m.super, .slice F1 m.fields.length f1, .slice M1 m.methods.length m1] 26 (0, 0))) ?_
          refine And.intro (fun _ h => h) ?_
          refine And.intro (k4.blk hM3d) ?_
          have hDY : ¬ (v2.alloc (.cells #[.slice none 0 0, .string ⟨#[]⟩, .string ⟨#[]⟩, .slice none 0 0, .slice none 0 0] 26)).heap.size = v2.heap.size := by omega
          have hDM : ¬ w.heap.size = (v2.alloc (.cells #[.slice none 0 0, .string ⟨#[]⟩, .string ⟨#[]⟩, .slice none 0 0, .slice none 0 0] 26)).heap.size := by omega
          refine And.intro rfl ?_
          refine storeN_all (vs := [.slice P2 m.pool.length p2, strV m.name, strV m.super, .slice F2 m.fields.length f2, .slice M2 m.methods.length m2]) ((New.refl _).blk hD) rfl (one_cls5 _ _ _ _ _ _ _ _ _ _ _) ?_
          intro y1 hy1 my1 sy1
          refine Exists.intro (fun w'' : World => w''.heap[w.heap.size]? = some (.cells #[.slice A1 m.pool.length a1, strV m.name, strV m.super, .slice F1 m.fields.length f1, .slice M1 m.methods.length m1] 26 (0, 0))) ?_
          refine And.intro (fun _ h => h) ?_
          refine And.intro (my1.blk (k4.blk hM3d) hDM) ?_
          refine And.intro rfl ?_
          refine storeN_all (vs := [.slice P3 m.pool.length p3, strV m.name, strV m.super, .slice F3 m.fields.length f3, .slice M3 m.methods.length m3]) (my1.blk ((n4).blk hY) (fun e => hDY e.symm)) rfl (one_cls5 _ _ _ _ _ _ _ _ _ _ _) ?_
          intro y2 hy2 my2 sy2
          exact hK ((v2.alloc (.cells #[.slice none 0 0, .string ⟨#[]⟩, .string ⟨#[]⟩, .slice none 0 0, .slice none 0 0] 26)).heap.size, v2.heap.size) _ _ ⟨rfl, rfl, rfl, trivial⟩ (fin h1 h3 (((n2).trans n3).trans n4) ((n3).trans n4) k4 (both (my1.mono fun _ _ e => .inl e) (my2.mono fun _ _ e => .inr e)) (my2.blk hy1 hDY) hy2 (by omega) (by omega) (by omega) (by omega) (by omega) (by omega) (by omega) (by omega) (by omega))
      · have n2 := New.alloc v1 (.cells #[.slice none 0 0, .string ⟨#[]⟩, .string ⟨#[]⟩, .slice none 0 0, .slice none 0 0] 26)
        have hD := heap_alloc_new v1 (.cells #[.slice none 0 0, .string ⟨#[]⟩, .string ⟨#[]⟩, .slice none 0 0, .slice none 0 0] 26)
        have k2 := k1.trans n2
        have z2 : (v1.alloc (.cells #[.slice none 0 0, .string ⟨#[]⟩, .string ⟨#[]⟩, .slice none 0 0, .slice none 0 0] 26)).heap.size = v1.heap.size + 1 := by simp
        refine Exists.intro (fun w'' : World => w''.heap[w.heap.size]? = some (.cells #[.slice A1 m.pool.length a1, strV m.name, strV m.super, .slice F1 m.fields.length f1, .slice M1 m.methods.length m1] 26 (0, 0))) ?_
        refine And.intro (fun _ h => h) ?_
        refine And.intro (k2.blk hM3d) ?_
        refine And.intro ?_ ?_
        · refine call_ (CopyS_ok [.slice A1 m.pool.length a1, strV m.name, strV m.super, .slice F1 m.fields.length f1, .slice M1 m.methods.length m1] m S (v1.alloc (.cells #[.slice none 0 0, .string ⟨#[]⟩, .string ⟨#[]⟩, .slice none 0 0, .slice none 0 0] 26)) (clsOk.mod hx3 (k2.mod.mono fun _ _ e => False.elim e)) hsm) ?_
          rintro e v3 ⟨P3, p3, F3, f3, M3, m3, rfl, h3, n3⟩
          refine ⟨_, rfl, ?_⟩
          have k3 := k2.trans n3
          have z3 := n3.size
          refine Exists.intro (fun w'' : World => w''.heap[w.heap.size]? = some (.cells #[.slice A1 m.pool.length a1, strV m.name, strV m.super, .slice F1 m.fields.length f1, .slice M1 m.methods.length m1] 26 (0, 0))) ?_
          refine And.intro (fun _ h => h) ?_
          refine And.intro (k3.blk hM3d) ?_
          have n4 := New.alloc v3 (.cells #[.slice none 0 0, .string ⟨#[]⟩, .string ⟨#[]⟩, .slice none 0 0, .slice none 0 0] 26)
          have hY := heap_alloc_new v3 (.cells #[.slice none 0 0, .string ⟨#[]⟩, .string ⟨#[]⟩, .slice none 0 0, .slice none 0 0] 26)
          have k4 := k3.trans n4
          have z4 : (v3.alloc (.cells #[.slice none 0 0, .string ⟨#[]⟩, .string ⟨#[]⟩, .slice none 0 0, .slice none 0 0] 26)).heap.size = v3.heap.size + 1 := by simp
          refine Exists.intro (fun w'' : World => w''.heap[w.heap.size]? = some (.cells #[.slice A1 m.pool.length a1, strV m.name, strV m.super, .slice F1 m.fields.length f1, .slice M1 m.methods.length m1] 26 (0, 0))) ?_
          refine And.intro (fun _ h => h) ?_
          refine And.intro (k4.blk hM3d) ?_
          have hDY : ¬ v1.heap.size = v3.heap.size := by omega
          have hDM : ¬ w.heap.size = v1.heap.size := by omega
          refine And.intro rfl ?_
          refine storeN_all (vs := [.slice P2 m.pool.length p2, strV m.name, strV m.super, .slice F2 m.fields.length f2, .slice M2 m.methods.length m2]) (((n3).trans n4).blk hD) rfl (one_cls5 _ _ _ _ _ _ _ _ _ _ _) ?_
          intro y1 hy1 my1 sy1
          refine Exists.intro (fun w'' : World => w''.heap[w.heap.size]? = some (.cells #[.slice A1 m.pool.length a1, strV m.name, strV m.super, .slice F1 m.fields.length f1, .slice M1 m.methods.length m1] 26 (0, 0))) ?_
          refine And.intro (fun _ h => h) ?_
          refine And.intro (my1.blk (k4.blk hM3d) hDM) ?_
          refine And.intro rfl ?_
          refine storeN_all (vs := [.slice P3 m.pool.length p3, strV m.name, strV m.super, .slice F3 m.fields.length f3, .slice M3 m.methods.length m3]) (my1.blk ((New.refl _).blk hY) (fun e => hDY e.symm)) rfl (one_cls5 _ _ _ _ _ _ _ _ _ _ _) ?_
          intro y2 hy2 my2 sy2
          exact hK (v1.heap.size, v3.heap.size) _ _ ⟨rfl, rfl, rfl, trivial⟩ (fin h1 h3 (((n2).trans n3).trans n4) (n4) k4 (both (my1.mono fun _ _ e => .inl e) (my2.mono fun _ _ e => .inr e)) (my2.blk hy1 hDY) hy2 (by omega) (by omega) (by omega) (by omega) (by omega) (by omega) (by omega) (by omega) (by omega))
        · have n3 := New.alloc (v1.alloc (.cells #[.slice none 0 0, .string ⟨#[]⟩, .string ⟨#[]⟩, .slice none 0 0, .slice none 0 0] 26)) (.cells #[.slice none 0 0, .string ⟨#[]⟩, .string ⟨#[]⟩, .slice none 0 0, .slice none 0 0] 26)
          have hY := heap_alloc_new (v1.alloc (.cells #[.slice none 0 0, .string ⟨#[]⟩, .string ⟨#[]⟩, .slice none 0 0, .slice none 0 0] 26)) (.cells #[.slice none 0 0, .string ⟨#[]⟩, .string ⟨#[]⟩, .slice none 0 0, .slice none 0 0] 26)
          have k3 := k2.trans n3
          have z3 : ((v1.alloc (.cells #[.slice none 0 0, .string ⟨#[]⟩, .string ⟨#[]⟩, .slice none 0 0, .slice none 0 0] 26)).alloc (.cells #[.slice none 0 0, .string ⟨#[]⟩, .string ⟨#[]⟩, .slice none 0 0, .slice none 0 0] 26)).heap.size = (v1.alloc (.cells #[.slice none 0 0, .string ⟨#[]⟩, .string ⟨#[]⟩, .slice none 0 0, .slice none 0 0] 26)).heap.size + 1 := by simp
          refine Exists.intro (fun w'' : World => w''.heap[w.heap.size]? = some (.cells #[.slice A1 m.pool.length a1, strV m.name, strV m.super, .slice F1 m.fields.length f1, .slice M1 m.methods.length m1] 26 (0, 0))) ?_
          refine And.intro (fun _ h => h) ?_
          refine And.intro (k3.blk hM3d) ?_
          refine call_ (CopyS_ok [.slice A1 m.pool.length a1, strV m.name, strV m.super, .slice F1 m.fields.length f1, .slice M1 m.methods.length m1] m S ((v1.alloc (.cells #[.slice none 0 0, .string ⟨#[]⟩, .string ⟨#[]⟩, .slice none 0 0, .slice none 0 0] 26)).alloc (.cells #[.slice none 0 0, .string ⟨#[]⟩, .string ⟨#[]⟩, .slice none 0 0, .slice none 0 0] 26)) (clsOk.mod hx3 (k3.mod.mono fun _ _ e => False.elim e)) hsm) ?_
          rintro e v4 ⟨P3, p3, F3, f3, M3, m3, rfl, h3, n4⟩
          refine ⟨_, rfl, ?_⟩
          have k4 := k3.trans n4
          have z4 := n4.size
          refine Exists.intro (fun w'' : World => w''.heap[w.heap.size]? = some (.cells #[.slice A1 m.pool.length a1, strV m.name, strV m.super, .slice F1 m.fields.length f1, .slice M1 m.methods.length m1] 26 (0, 0))) ?_
          refine And.intro (fun _ h => h) ?_
          refine And.intro (k4.blk hM3d) ?_
          have hDY : ¬ v1.heap.size = (v1.alloc (.cells #[.slice none 0 0, .string ⟨#[]⟩, .string ⟨#[]⟩, .slice none 0 0, .slice none 0 0] 26)).heap.size := by omega
          have hDM : ¬ w.heap.size = v1.heap.size := by omega
          refine And.intro rfl ?_
          refine storeN_all (vs := [.slice P2 m.pool.length p2, strV m.name, strV m.super, .slice F2 m.fields.length f2, .slice M2 m.methods.length m2]) (((n3).trans n4).blk hD) rfl (one_cls5 _ _ _ _ _ _ _ _ _ _ _) ?_
          intro y1 hy1 my1 sy1
          refine Exists.intro (fun w'' : World => w''.heap[w.heap.size]? = some (.cells #[.slice A1 m.pool.length a1, strV m.name, strV m.super, .slice F1 m.fields.length f1, .slice M1 m.methods.length m1] 26 (0, 0))) ?_
          refine And.intro (fun _ h => h) ?_
          refine And.intro (my1.blk (k4.blk hM3d) hDM) ?_
          refine And.intro rfl ?_
          refine storeN_all (vs := [.slice P3 m.pool.length p3, strV m.name, strV m.super, .slice F3 m.fields.length f3, .slice M3 m.methods.length m3]) (my1.blk ((n4).blk hY) (fun e => hDY e.symm)) rfl (one_cls5 _ _ _ _ _ _ _ _ _ _ _) ?_
          intro y2 hy2 my2 sy2
          exact hK (v1.heap.size, (v1.alloc (.cells #[.slice none 0 0, .string ⟨#[]⟩, .string ⟨#[]⟩, .slice none 0 0, .slice none 0 0] 26)).heap.size) _ _ ⟨rfl, rfl, rfl, trivial⟩ (fin h1 h3 (((n2).trans n3).trans n4) (New.refl _) k4 (both (my1.mono fun _ _ e => .inl e) (my2.mono fun _ _ e => .inr e)) (my2.blk hy1 hDY) hy2 (by omega) (by omega) (by omega) (by omega) (by omega) (by omega) (by omega) (by omega) (by omega))
      · have n2 := New.alloc v1 (.cells #[.slice none 0 0, .string ⟨#[]⟩, .string ⟨#[]⟩, .slice none 0 0, .slice none 0 0] 26)
        have hY := heap_alloc_new v1 (.cells #[.slice none 0 0, .string ⟨#[]⟩, .string ⟨#[]⟩, .slice none 0 0, .slice none 0 0] 26)
        have k2 := k1.trans n2
        have z2 : (v1.alloc (.cells #[.slice none 0 0, .string ⟨#[]⟩, .string ⟨#[]⟩, .slice none 0 0, .slice none 0 0] 26)).heap.size = v1.heap.size + 1 := by simp
        refine Exists.intro (fun w'' : World => w''.heap[w.heap.size]? = some (.cells #[.slice A1 m.pool.length a1, strV m.name, strV m.super, .slice F1 m.fields.length f1, .slice M1 m.methods.length m1] 26 (0, 0))) ?_
        refine And.intro (fun _ h => h) ?_
        refine And.intro (k2.blk hM3d) ?_
        refine And.intro ?_ ?_
        · refine call_ (CopyS_ok [.slice A1 m.pool.length a1, strV m.name, strV m.super, .slice F1 m.fields.length f1, .slice M1 m.methods.length m1] m S (v1.alloc (.cells #[.slice none 0 0, .string ⟨#[]⟩, .string ⟨#[]⟩, .slice none 0 0, .slice none 0 0] 26)) (clsOk.mod hx3 (k2.mod.mono fun _ _ e => False.elim e)) hsm) ?_
          rintro e v3 ⟨P3, p3, F3, f3, M3, m3, rfl, h3, n3⟩
          refine ⟨_, rfl, ?_⟩
          have k3 := k2.trans n3
          have z3 := n3.size
          refine Exists.intro (fun w'' : World => w''.heap[w.heap.size]? = some (.cells #[.slice A1 m.pool.length a1, strV m.name, strV m.super, .slice F1 m.fields.length f1, .slice M1 m.methods.length m1] 26 (0, 0))) ?_
          refine And.intro (fun _ h => h) ?_
          refine And.intro (k3.blk hM3d) ?_
          have n4 := New.alloc v3 (.cells #[.slice none 0 0, .string ⟨#[]⟩, .string ⟨#[]⟩, .slice none 0 0, .slice none 0 0] 26)
          have hD := heap_alloc_new v3 (.cells #[.slice none 0 0, .string ⟨#[]⟩, .string ⟨#[]⟩, .slice none 0 0, .slice none 0 0] 26)
          have k4 := k3.trans n4
          have z4 : (v3.alloc (.cells #[.slice none 0 0, .string ⟨#[]⟩, .string ⟨#[]⟩, .slice none 0 0, .slice none 0 0] 26)).heap.size = v3.heap.size + 1 := by simp
          refine Exists.intro (fun w'' : World => w''.heap[w.heap.size]? = some (.cells #[.slice A1 m.pool.length a1, strV m.name, strV m.super, .slice F1 m.fields.length f1, .slice M1 m.methods.length m1] 26 (0, 0))) ?_
          refine And.intro (fun _ h => h) ?_
          refine And.intro (k4.blk hM3d) ?_
          have hDY : ¬ v3.heap.size = v1.heap.size := by omega
          have hDM : ¬ w.heap.size = v3.heap.size := by omega
          refine And.intro rfl ?_
          refine storeN_all (vs := [.slice P2 m.pool.length p2, strV m.name, strV m.super, .slice F2 m.fields.length f2, .slice M2 m.methods.length m2]) ((New.refl _).blk hD) rfl (one_cls5 _ _ _ _ _ _ _ _ _ _ _) ?_
          intro y1 hy1 my1 sy1
          refine Exists.intro (fun w'' : World => w''.heap[w.heap.size]? = some (.cells #[.slice A1 m.pool.length a1, strV m.name, strV m.super, .slice F1 m.fields.length f1, .slice M1 m.methods.length m1] 26 (0, 0))) ?_
          refine And.intro (fun _ h => h) ?_
          refine And.intro (my1.blk (k4.blk hM3d) hDM) ?_
          refine And.intro rfl ?_
          refine storeN_all (vs := [.slice P3 m.pool.length p3, strV m.name, strV m.super, .slice F3 m.fields.length f3, .slice M3 m.methods.length m3]) (my1.blk (((n3).trans n4).blk hY) (fun e => hDY e.symm)) rfl (one_cls5 _ _ _ _ _ _ _ _ _ _ _) ?_
          intro y2 hy2 my2 sy2
          exact hK (v3.heap.size, v1.heap.size) _ _ ⟨rfl, rfl, rfl, trivial⟩ (fin h1 h3 (((n2).trans n3).trans n4) (n4) k4 (both (my1.mono fun _ _ e => .inl e) (my2.mono fun _ _ e => .inr e)) (my2.blk hy1 hDY) hy2 (by omega) (by omega) (by omega) (by omega) (by omega) (by omega) (by omega) (by omega) (by omega))
        · have n3 := New.alloc (v1.alloc (.cells #[.slice none 0 0, .string ⟨#[]⟩, .string ⟨#[]⟩, .slice none 0 0, .slice none 0 0] 26)) (.cells #[.slice none 0 0, .string ⟨#[]⟩, .string ⟨#[]⟩, .slice none 0 0, .slice none 0 0] 26)
          have hD := heap_alloc_new (v1.alloc (.cells #[.slice none 0 0, .string ⟨#[]⟩, .string ⟨#[]⟩, .slice none 0 0, .slice none 0 0] 26)) (.cells #[.slice none 0 0, .string ⟨#[]⟩, .string ⟨#[]⟩, .slice none 0 0, .slice none 0 0] 26)
          have k3 := k2.trans n3
          have z3 : ((v1.alloc (.cells #[.slice none 0 0, .string ⟨#[]⟩, .string ⟨#[]⟩, .slice none 0 0, .slice none 0 0] 26)).alloc (.cells #[.slice none 0 0, .string ⟨#[]⟩, .string ⟨#[]⟩, .slice none 0 0, .slice none 0 0] 26)).heap.size = (v1.alloc (.cells #[.slice none 0 0, .string ⟨#[]⟩, .string ⟨#[]⟩, .slice none 0 0, .slice none 0 0] 26)).heap.size + 1 := by simp
          refine Exists.intro (fun w'' : World => w''.heap[w.heap.size]? = some (.cells #[.slice A1 m.pool.length a1, strV m.name, strV m.super, .slice F1 m.fields.length f1, .slice M1 m.methods.length m1] 26 (0, 0))) ?_
          refine And.intro (fun _ h => h) ?_
          refine And.intro (k3.blk hM3d) ?_
          refine call_ (CopyS_ok [.slice A1 m.pool.length a1, strV m.name, strV m.super, .slice F1 m.fields.length f1, .slice M1 m.methods.length m1] m S ((v1.alloc (.cells #[.slice none 0 0, .string ⟨#[]⟩, .string ⟨#[]⟩, .slice none 0 0, .slice none 0 0] 26)).alloc (.cells #[.slice none 0 0, .string ⟨#[]⟩, .string ⟨#[]⟩, .slice none 0 0, .slice none 0 0] 26)) (clsOk.mod hx3 (k3.mod.mono fun _ _ e => False.elim e)) hsm) ?_
          rintro e v4 ⟨P3, p3, F3, f3, M3, m3, rfl, h3, n4⟩
          refine ⟨_, rfl, ?_⟩
          have k4 := k3.trans n4
          have z4 := n4.size
          refine Exists.intro (fun w'' : World => w''.heap[w.heap.size]? = some (.cells #[.slice A1 m.pool.length a1, strV m.name, strV m.super, .slice F1 m.fields.length f1, .slice M1 m.methods.length m1] 26 (0, 0))) ?_
          refine And.intro (fun _ h => h) ?_
          refine And.intro (k4.blk hM3d) ?_
          have hDY : ¬ (v1.alloc (.cells #[.slice none 0 0, .string ⟨#[]⟩, .string ⟨#[]⟩, .slice none 0 0, .slice none 0 0] 26)).heap.size = v1.heap.size := by omega
          have hDM : ¬ w.heap.size = (v1.alloc (.cells #[.slice none 0 0, .string ⟨#[]⟩, .string ⟨#[]⟩, .slice none 0 0, .slice none 0 0] 26)).heap.size := by omega
          refine And.intro rfl ?_
          refine storeN_all (vs := [.slice P2 m.pool.length p2, strV m.name, strV m.super, .slice F2 m.fields.length f2, .slice M2 m.methods.length m2]) ((n4).blk hD) rfl (one_cls5 _ _ _ _ _ _ _ _ _ _ _) ?_
          intro y1 hy1 my1 sy1
          refine Exists.intro (fun w'' : World => w''.heap[w.heap.size]? = some (.cells #[.slice A1 m.pool.length a1, strV m.name, strV m.super, .slice F1 m.fields.length f1, .slice M1 m.methods.length m1] 26 (0, 0))) ?_
          refine And.intro (fun _ h => h) ?_
          refine And.intro (my1.blk (k4.blk hM3d) hDM) ?_
          refine And.intro rfl ?_
          refine storeN_all (vs := [.slice P3 m.pool.length p3, strV m.name, strV m.super, .slice F3 m.fields.length f3, .slice M3 m.methods.length m3]) (my1.blk (((n3).trans n4).blk hY) (fun e => hDY e.symm)) rfl (one_cls5 _ _ _ _ _ _ _ _ _ _ _) ?_
          intro y2 hy2 my2 sy2
          exact hK ((v1.alloc (.cells #[.slice none 0 0, .string ⟨#[]⟩, .string ⟨#[]⟩, .slice none 0 0, .slice none 0 0] 26)).heap.size, v1.heap.size) _ _ ⟨rfl, rfl, rfl, trivial⟩ (fin h1 h3 (((n2).trans n3).trans n4) (New.refl _) k4 (both (my1.mono fun _ _ e => .inl e) (my2.mono fun _ _ e => .inr e)) (my2.blk hy1 hDY) hy2 (by omega) (by omega) (by omega) (by omega) (by omega) (by omega) (by omega) (by omega) (by omega))
    · have n1 := New.alloc w3.drew (.cells #[.slice none 0 0, .string ⟨#[]⟩, .string ⟨#[]⟩, .slice none 0 0, .slice none 0 0] 26)
      have hD := heap_alloc_new w3.drew (.cells #[.slice none 0 0, .string ⟨#[]⟩, .string ⟨#[]⟩, .slice none 0 0, .slice none 0 0] 26)
      have k1 := k0.trans n1
      have z1 : (w3.drew.alloc (.cells #[.slice none 0 0, .string ⟨#[]⟩, .string ⟨#[]⟩, .slice none 0 0, .slice none 0 0] 26)).heap.size = w3.drew.heap.size + 1 := by simp
      refine Exists.intro (fun w'' : World => w''.heap[w.heap.size]? = some (.cells #[.slice A1 m.pool.length a1, strV m.name, strV m.super, .slice F1 m.fields.length f1, .slice M1 m.methods.length m1] 26 (0, 0))) ?_
      refine And.intro (fun _ h => h) ?_
      refine And.intro (k1.blk hM3d) ?_
      refine And.intro ?_ ?_
      · refine call_ (CopyS_ok [.slice A1 m.pool.length a1, strV m.name, strV m.super, .slice F1 m.fields.length f1, .slice M1 m.methods.length m1] m S (w3.drew.alloc (.cells #[.slice none 0 0, .string ⟨#[]⟩, .string ⟨#[]⟩, .slice none 0 0, .slice none 0 0] 26)) (clsOk.mod hx3 (k1.mod.mono fun _ _ e => False.elim e)) hsm) ?_
        rintro e v2 ⟨P2, p2, F2, f2, M2, m2, rfl, h1, n2⟩
        refine ⟨_, rfl, ?_⟩
        have k2 := k1.trans n2
        have z2 := n2.size
        refine Exists.intro (fun w'' : World => w''.heap[w.heap.size]? = some (.cells #[.slice A1 m.pool.length a1, strV m.name, strV m.super, .slice F1 m.fields.length f1, .slice M1 m.methods.length m1] 26 (0, 0))) ?_
        refine And.intro (fun _ h => h) ?_
        refine And.intro (k2.blk hM3d) ?_
        refine And.intro ?_ ?_
        · refine call_ (CopyS_ok [.slice A1 m.pool.length a1, strV m.name, strV m.super, .slice F1 m.fields.length f1, .slice M1 m.methods.length m1] m S v2 (clsOk.mod hx3 (k2.mod.mono fun _ _ e => False.elim e)) hsm) ?_
          rintro e v3 ⟨P3, p3, F3, f3, M3, m3, rfl, h3, n3⟩
          refine ⟨_, rfl, ?_⟩
          have k3 := k2.trans n3
          have z3 := n3.size
          refine Exists.intro (fun w'' : World => w''.heap[w.heap.size]? = some (.cells #[.slice A1 m.pool.length a1, strV m.name, strV m.super, .slice F1 m.fields.length f1, .slice M1 m.methods.length m1] 26 (0, 0))) ?_
          refine And.intro (fun _ h => h) ?_
          refine And.intro (k3.blk hM3d) ?_
          have n4 := New.alloc v3 (.cells #[.slice none 0 0, .string ⟨#[]⟩, .string ⟨#[]⟩, .slice none 0 0, .slice none 0 0] 26)
          have hY := heap_alloc_new v3 (.cells #[.slice none 0 0, .string ⟨#[]⟩, .string ⟨#[]⟩, .slice none 0 0, .slice none 0 0] 26)
          have k4 := k3.trans n4
          have z4 : (v3.alloc (.cells #[.slice none 0 0, .string ⟨#[]⟩, .string ⟨#[]⟩, .slice none 0 0, .slice none 0 0] 26)).heap.size = v3.heap.size + 1 := by simp
          refine Exists.intro (fun w'' : World => w''.heap[w.heap.size]? = some (.cells #[.slice A1 m.pool.length a1, strV m.name, strV m.super, .slice F1 m.fields.length f1, .slice M1 m.methods.length m1] 26 (0, 0))) ?_
          refine And.intro (fun _ h => h) ?_
          refine And.intro (k4.blk hM3d) ?_
          have hDY : ¬ w3.drew.heap.size = v3.heap.size := by omega
          have hDM : ¬ w.heap.size = w3.drew.heap.size := by omega
          refine And.intro rfl ?_
          refine storeN_all (vs := [.slice P2 m.pool.length p2, strV m.name, strV m.super, .slice F2 m.fields.length f2, .slice M2 m.methods.length m2]) ((((n2).trans n3).trans n4).blk hD) rfl (one_cls5 _ _ _ _ _ _ _ _ _ _ _) ?_
          intro y1 hy1 my1 sy1
          refine Exists.intro (fun w'' : World => w''.heap[w.heap.size]? = some (.cells #[.slice A1 m.pool.length a1, strV m.name, strV m.super, .slice F1 m.fields.length f1, .slice M1 m.methods.length m1] 26 (0, 0))) ?_
          refine And.intro (fun _ h => h) ?_
          refine And.intro (my1.blk (k4.blk hM3d) hDM) ?_
          refine And.intro rfl ?_
          refine storeN_all (vs := [.slice P3 m.pool.length p3, strV m.name, strV m.super, .slice F3 m.fields.length f3, .slice M3 m.methods.length m3]) (my1.blk ((New.refl _).blk hY) (fun e => hDY e.symm)) rfl (one_cls5 _ _ _ _ _ _ _ _ _ _ _) ?_
          intro y2 hy2 my2 sy2
          exact hK (w3.drew.heap.size, v3.heap.size) _ _ ⟨rfl, rfl, rfl, trivial⟩ (fin h1 h3 ((n3).trans n4) (n4) k4 (both (my1.mono fun _ _ e => .inl e) (my2.mono fun _ _ e => .inr e)) (my2.blk hy1 hDY) hy2 (by omega) (by omega) (by omega) (by omega) (by omega) (by omega) (by omega) (by omega) (by omega))
        · have n3 := New.alloc v2 (.cells #[.slice none 0 0, .string ⟨#[]⟩, .string ⟨#[]⟩, .slice none 0 0, .slice none 0 0] 26)
          have hY := heap_alloc_new v2 (.cells #[.slice none 0 0, .string ⟨#[]⟩, .string ⟨#[]⟩, .slice none 0 0, .slice none 0 0] 26)
          have k3 := k2.trans n3
          have z3 : (v2.alloc (.cells #[.slice none 0 0, .string ⟨#[]⟩, .string ⟨#[]⟩, .slice none 0 0, .slice none 0 0] 26)).heap.size = v2.heap.size + 1 := by simp
          refine Exists.intro (fun w'' : World => w''.heap[w.heap.size]? = some (.cells #[.slice A1 m.pool.length a1, strV m.name, strV m.super, .slice F1 m.fields.length f1, .slice M1 m.methods.length m1] 26 (0, 0))) ?_
          refine And.intro (fun _ h => h) ?_
          refine And.intro (k3.blk hM3d) ?_
          refine call_ (CopyS_ok [.slice A1 m.pool.length a1, strV m.name, strV m.super, .slice F1 m.fields.length f1, .slice M1 m.methods.length m1] m S (v2.alloc (.cells #[.slice none 0 0, .string ⟨#[]⟩, .string ⟨#[]⟩, .slice none 0 0, .slice none 0 0] 26)) (clsOk.mod hx3 (k3.mod.mono fun _ _ e => False.elim e)) hsm) ?_
          rintro e v4 ⟨P3, p3, F3, f3, M3, m3, rfl, h3, n4⟩
          refine ⟨_, rfl, ?_⟩
          have k4 := k3.trans n4
          have z4 := n4.size
          refine Exists.intro (fun w'' : World => w''.heap[w.heap.size]? = some (.cells #[.slice A1 m.pool.length a1, strV m.name, strV m.super, .slice F1 m.fields.length f1, .slice M1 m.methods.length m1] 26 (0, 0))) ?_
          refine And.intro (fun _ h => h) ?_
          refine And.intro (k4.blk hM3d) ?_
          have hDY : ¬ w3.drew.heap.size = v2.heap.size := by omega
          have hDM : ¬ w.heap.size = w3.drew.heap.size := by omega
          refine And.intro rfl ?_
          refine storeN_all (vs := [.slice P2 m.pool.length p2, strV m.name, strV m.super, .slice F2 m.fields.length f2, .slice M2 m.methods.length m2]) ((((n2).trans n3).trans n4).blk hD) rfl (one_cls5 _ _ _ _ _ _ _ _ _ _ _) ?_
          intro y1 hy1 my1 sy1
          refine Exists.intro (fun w'' : World => w''.heap[w.heap.size]? = some (.cells #[.slice A1 m.pool.length a1, strV m.name, strV m.super, .slice F1 m.fields.length f1, .slice M1 m.methods.length m1] 26 (0, 0))) ?_
          refine And.intro (fun _ h => h) ?_
          refine And.intro (my1.blk (k4.blk hM3d) hDM) ?_
          refine And.intro rfl ?_
          refine storeN_all (vs := [.slice P3 m.pool.length p3, strV m.name, strV m.super, .slice F3 m.fields.length f3, .slice M3 m.methods.length m3]) (my1.blk ((n4).blk hY) (fun e => hDY e.symm)) rfl (one_cls5 _ _ _ _ _ _ _ _ _ _ _) ?_
          intro y2 hy2 my2 sy2
          exact hK (w3.drew.heap.size, v2.heap.size) _ _ ⟨rfl, rfl, rfl, trivial⟩ (fin h1 h3 ((n3).trans n4) (New.refl _) k4 (both (my1.mono fun _ _ e => .inl e) (my2.mono fun _ _ e => .inr e)) (my2.blk hy1 hDY) hy2 (by omega) (by omega) (by omega) (by omega) (by omega) (by omega) (by omega) (by omega) (by omega))
      · have n2 := New.alloc (w3.drew.alloc (.cells #[.slice none 0 0, .string ⟨#[]⟩, .string ⟨#[]⟩, .slice none 0 0, .slice none 0 0] 26)) (.cells #[.slice none 0 0, .string ⟨#[]⟩, .string ⟨#[]⟩, .slice none 0 0, .slice none 0 0] 26)
        have hY := heap_alloc_new (w3.drew.alloc (.cells #[.slice none 0 0, .string ⟨#[]⟩, .string ⟨#[]⟩, .slice none 0 0, .slice none 0 0] 26)) (.cells #[.slice none 0 0, .string ⟨#[]⟩, .string ⟨#[]⟩, .slice none 0 0, .slice none 0 0] 26)
        have k2 := k1.trans n2
        have z2 : ((w3.drew.alloc (.cells #[.slice none 0 0, .string ⟨#[]⟩, .string ⟨#[]⟩, .slice none 0 0, .slice none 0 0] 26)).alloc (.cells #[.slice none 0 0, .string ⟨#[]⟩, .string ⟨#[]⟩, .slice none 0 0, .slice none 0 0] 26)).heap.size = (w3.drew.alloc (.cells #[.slice none 0 0, .string ⟨#[]⟩, .string ⟨#[]⟩, .slice none 0 0, .slice none 0 0] 26)).heap.size + 1 := by simp
        refine Exists.intro (fun w'' : World => w''.heap[w.heap.size]? = some (.cells #[.slice A1 m.pool.length a1, strV m.name, strV m.super, .slice F1 m.fields.length f1, .slice M1 m.methods.length m1] 26 (0, 0))) ?_
        refine And.intro (fun _ h => h) ?_
        refine And.intro (k2.blk hM3d) ?_
        refine call_ (CopyS_ok [.slice A1 m.pool.length a1, strV m.name, strV m.super, .slice F1 m.fields.length f1, .slice M1 m.methods.length m1] m S ((w3.drew.alloc (.cells #[.slice none 0 0, .string ⟨#[]⟩, .string ⟨#[]⟩, .slice none 0 0, .slice none 0 0] 26)).alloc (.cells #[.slice none 0 0, .string ⟨#[]⟩, .string ⟨#[]⟩, .slice none 0 0, .slice none 0 0] 26)) (clsOk.mod hx3 (k2.mod.mono fun _ _ e => False.elim e)) hsm) ?_
        rintro e v3 ⟨P2, p2, F2, f2, M2, m2, rfl, h1, n3⟩
        refine ⟨_, rfl, ?_⟩
        have k3 := k2.trans n3
        have z3 := n3.size
        refine Exists.intro (fun w'' : World => w''.heap[w.heap.size]? = some (.cells #[.slice A1 m.pool.length a1, strV m.name, strV m.super, .slice F1 m.fields.length f1, .slice M1 m.methods.length m1] 26 (0, 0))) ?_
        refine And.intro (fun _ h => h) ?_
        refine And.intro (k3.blk hM3d) ?_
        refine call_ (CopyS_ok [.slice A1 m.pool.length a1, strV m.name, strV m.super, .slice F1 m.fields.length f1, .slice M1 m.methods.length m1] m S v3 (clsOk.mod hx3 (k3.mod.mono fun _ _ e => False.elim e)) hsm) ?_
        rintro e v4 ⟨P3, p3, F3, f3, M3, m3, rfl, h3, n4⟩
        refine ⟨_, rfl, ?_⟩
        have k4 := k3.trans n4
        have z4 := n4.size
        refine Exists.intro (fun w'' : World => w''.heap[w.heap.size]? = some (.cells #[.slice A1 m.pool.length a1, strV m.name, strV m.super, .slice F1 m.fields.length f1, .slice M1 m.methods.length m1] 26 (0, 0))) ?_
        refine And.intro (fun _ h => h) ?_
        refine And.intro (k4.blk hM3d) ?_
        have hDY : ¬ w3.drew.heap.size = (w3.drew.alloc (.cells #[.slice none 0 0, .string ⟨#[]⟩, .string ⟨#[]⟩, .slice none 0 0, .slice none 0 0] 26)).heap.size := by omega
        have hDM : ¬ w.heap.size = w3.drew.heap.size := by omega
        refine And.intro rfl ?_
        refine storeN_all (vs := [.slice P2 m.pool.length p2, strV m.name, strV m.super, .slice F2 m.fields.length f2, .slice M2 m.methods.length m2]) ((((n2).trans n3).trans n4).blk hD) rfl (one_cls5 _ _ _ _ _ _ _ _ _ _ _) ?_
        intro y1 hy1 my1 sy1
        refine Exists.intro (fun w'' : World => w''.heap[w.heap.size]? = some (.cells #[.slice A1 m.pool.length a1, strV m.name, strV m.super, .slice F1 m.fields.length f1, .slice M1 m.methods.length m1] 26 (0, 0))) ?_
        refine And.intro (fun _ h => h) ?_
        refine And.intro (my1.blk (k4.blk hM3d) hDM) ?_
        refine And.intro rfl ?_
        refine storeN_all (vs := [.slice P3 m.pool.length p3, strV m.name, strV m.super, .slice F3 m.fields.length f3, .slice M3 m.methods.length m3]) (my1.blk (((n3).trans n4).blk hY) (fun e => hDY e.symm)) rfl (one_cls5 _ _ _ _ _ _ _ _ _ _ _) ?_
        intro y2 hy2 my2 sy2
        exact hK (w3.drew.heap.size, (w3.drew.alloc (.cells #[.slice none 0 0, .string ⟨#[]⟩, .string ⟨#[]⟩, .slice none 0 0, .slice none 0 0] 26)).heap.size) _ _ ⟨rfl, rfl, rfl, trivial⟩ (fin h1 h3 (n4) (New.refl _) k4 (both (my1.mono fun _ _ e => .inl e) (my2.mono fun _ _ e => .inr e)) (my2.blk hy1 hDY) hy2 (by omega) (by omega) (by omega) (by omega) (by omega) (by omega) (by omega) (by omega) (by omega))
    · have n1 := New.alloc w3.drew (.cells #[.slice none 0 0, .string ⟨#[]⟩, .string ⟨#[]⟩, .slice none 0 0, .slice none 0 0] 26)
      have hY := heap_alloc_new w3.drew (.cells #[.slice none 0 0, .string ⟨#[]⟩, .string ⟨#[]⟩, .slice none 0 0, .slice none 0 0] 26)
      have k1 := k0.trans n1
      have z1 : (w3.drew.alloc (.cells #[.slice none 0 0, .string ⟨#[]⟩, .string ⟨#[]⟩, .slice none 0 0, .slice none 0 0] 26)).heap.size = w3.drew.heap.size + 1 := by simp
      refine Exists.intro (fun w'' : World => w''.heap[w.heap.size]? = some (.cells #[.slice A1 m.pool.length a1, strV m.name, strV m.super, .slice F1 m.fields.length f1, .slice M1 m.methods.length m1] 26 (0, 0))) ?_
      refine And.intro (fun _ h => h) ?_
      refine And.intro (k1.blk hM3d) ?_
      refine And.intro ?_ ?_
      · refine call_ (CopyS_ok [.slice A1 m.pool.length a1, strV m.name, strV m.super, .slice F1 m.fields.length f1, .slice M1 m.methods.length m1] m S (w3.drew.alloc (.cells #[.slice none 0 0, .string ⟨#[]⟩, .string ⟨#[]⟩, .slice none 0 0, .slice none 0 0] 26)) (clsOk.mod hx3 (k1.mod.mono fun _ _ e => False.elim e)) hsm) ?_
        rintro e v2 ⟨P2, p2, F2, f2, M2, m2, rfl, h1, n2⟩
        refine ⟨_, rfl, ?_⟩
        have k2 := k1.trans n2
        have z2 := n2.size
        refine Exists.intro (fun w'' : World => w''.heap[w.heap.size]? = some (.cells #[.slice A1 m.pool.length a1, strV m.name, strV m.super, .slice F1 m.fields.length f1, .slice M1 m.methods.length m1] 26 (0, 0))) ?_
        refine And.intro (fun _ h => h) ?_
        refine And.intro (k2.blk hM3d) ?_
        refine And.intro ?_ ?_
        · refine call_ (CopyS_ok [.slice A1 m.pool.length a1, strV m.name, strV m.super, .slice F1 m.fields.length f1, .slice M1 m.methods.length m1] m S v2 (clsOk.mod hx3 (k2.mod.mono fun _ _ e => False.elim e)) hsm) ?_
          rintro e v3 ⟨P3, p3, F3, f3, M3, m3, rfl, h3, n3⟩
          refine ⟨_, rfl, ?_⟩
          have k3 := k2.trans n3
          have z3 := n3.size
          refine Exists.intro (fun w'' : World => w''.heap[w.heap.size]? = some (.cells #[.slice A1 m.pool.length a1, strV m.name, strV m.super, .slice F1 m.fields.length f1, .slice M1 m.methods.length m1] 26 (0, 0))) ?_
          refine And.intro (fun _ h => h) ?_
          refine And.intro (k3.blk hM3d) ?_
          have n4 := New.alloc v3 (.cells #[.slice none 0 0, .string ⟨#[]⟩, .string ⟨#[]⟩, .slice none 0 0, .slice none 0 0] 26)
          have hD := heap_alloc_new v3 (.cells #[.slice none 0 0, .string ⟨#[]⟩, .string ⟨#[]⟩, .slice none 0 0, .slice none 0 0] 26)
          have k4 := k3.trans n4
          have z4 : (v3.alloc (.cells #[.slice none 0 0, .string ⟨#[]⟩, .string ⟨#[]⟩, .slice none 0 0, .slice none 0 0] 26)).heap.size = v3.heap.size + 1 := by simp
          refine Exists.intro (fun w'' : World => w''.heap[w.heap.size]? = some (.cells #[.slice A1 m.pool.length a1, strV m.name, strV m.super, .slice F1 m.fields.length f1, .slice M1 m.methods.length m1] 26 (0, 0))) ?_
          refine And.intro (fun _ h => h) ?_
          refine And.intro (k4.blk hM3d) ?_
          have hDY : ¬ v3.heap.size = w3.drew.heap.size := by omega
          have hDM : ¬ w.heap.size = v3.heap.size := by omega
          refine And.intro rfl ?_
          refine storeN_all (vs := [.slice P2 m.pool.length p2, strV m.name, strV m.super, .slice F2 m.fields.length f2, .slice M2 m.methods.length m2]) ((New.refl _).blk hD) rfl (one_cls5 _ _ _ _ _ _ _ _ _ _ _) ?_
          intro y1 hy1 my1 sy1
          refine Exists.intro (fun w'' : World => w''.heap[w.heap.size]? = some (.cells #[.slice A1 m.pool.length a1, strV m.name, strV m.super, .slice F1 m.fields.length f1, .slice M1 m.methods.length m1] 26 (0, 0))) ?_
          refine And.intro (fun _ h => h) ?_
          refine And.intro (my1.blk (k4.blk hM3d) hDM) ?_
          refine And.intro rfl ?_
          refine storeN_all (vs := [.slice P3 m.pool.length p3, strV m.name, strV m.super, .slice F3 m.fields.length f3, .slice M3 m.methods.length m3]) (my1.blk ((((n2).trans n3).trans n4).blk hY) (fun e => hDY e.symm)) rfl (one_cls5 _ _ _ _ _ _ _ _ _ _ _) ?_
          intro y2 hy2 my2 sy2
          exact hK (v3.heap.size, w3.drew.heap.size) _ _ ⟨rfl, rfl, rfl, trivial⟩ (fin h1 h3 ((n3).trans n4) (n4) k4 (both (my1.mono fun _ _ e => .inl e) (my2.mono fun _ _ e => .inr e)) (my2.blk hy1 hDY) hy2 (by omega) (by omega) (by omega) (by omega) (by omega) (by omega) (by omega) (by omega) (by omega))
        · have n3 := New.alloc v2 (.cells #[.slice none 0 0, .string ⟨#[]⟩, .string ⟨#[]⟩, .slice none 0 0, .slice none 0 0] 26)
          have hD := heap_alloc_new v2 (.cells #[.slice none 0 0, .string ⟨#[]⟩, .string ⟨#[]⟩, .slice none 0 0, .slice none 0 0] 26)
          have k3 := k2.trans n3
          have z3 : (v2.alloc (.cells #[.slice none 0 0, .string ⟨#[]⟩, .string ⟨#[]⟩, .slice none 0 0, .slice none 0 0] 26)).heap.size = v2.heap.size + 1 := by simp
          refine Exists.intro (fun w'' : World => w''.heap[w.heap.size]? = some (.cells #[.slice A1 m.pool.length a1, strV m.name, strV m.super, .slice F1 m.fields.length f1, .slice M1 m.methods.length m1] 26 (0, 0))) ?_
          refine And.intro (fun _ h => h) ?_
          refine And.intro (k3.blk hM3d) ?_
          refine call_ (CopyS_ok [.slice A1 m.pool.length a1, strV m.name, strV m.super, .slice F1 m.fields.length f1, .slice M1 m.methods.length m1] m S (v2.alloc (.cells #[.slice none 0 0, .string ⟨#[]⟩, .string ⟨#[]⟩, .slice none 0 0, .slice none 0 0] 26)) (clsOk.mod hx3 (k3.mod.mono fun _ _ e => False.elim e)) hsm) ?_
          rintro e v4 ⟨P3, p3, F3, f3, M3, m3, rfl, h3, n4⟩
          refine ⟨_, rfl, ?_⟩
          have k4 := k3.trans n4
          have z4 := n4.size
          refine Exists.intro (fun w'' : World => w''.heap[w.heap.size]? = some (.cells #[.slice A1 m.pool.length a1, strV m.name, strV m.super, .slice F1 m.fields.length f1, .slice M1 m.methods.length m1] 26 (0, 0))) ?_
          refine And.intro (fun _ h => h) ?_
          refine And.intro (k4.blk hM3d) ?_
          have hDY : ¬ v2.heap.size = w3.drew.heap.size := by omega
          have hDM : ¬ w.heap.size = v2.heap.size := by omega
          refine And.intro rfl ?_
          refine storeN_all (vs := [.slice P2 m.pool.length p2, strV m.name, strV m.super, .slice F2 m.fields.length f2, .slice M2 m.methods.length m2]) ((n4).blk hD) rfl (one_cls5 _ _ _ _ _ _ _ _ _ _ _) ?_
          intro y1 hy1 my1 sy1
          refine Exists.intro (fun w'' : World => w''.heap[w.heap.size]? = some (.cells #[.slice A1 m.pool.length a1, strV m.name, strV m.super, .slice F1 m.fields.length f1, .slice M1 m.methods.length m1] 26 (0, 0))) ?_
          refine And.intro (fun _ h => h) ?_
          refine And.intro (my1.blk (k4.blk hM3d) hDM) ?_
          refine And.intro rfl ?_
          refine storeN_all (vs := [.slice P3 m.pool.length p3, strV m.name, strV m.super, .slice F3 m.fields.length f3, .slice M3 m.methods.length m3]) (my1.blk ((((n2).trans n3).trans n4).blk hY) (fun e => hDY e.symm)) rfl (one_cls5 _ _ _ _ _ _ _ _ _ _ _) ?_
          intro y2 hy2 my2 sy2
          exact hK (v2.heap.size, w3.drew.heap.size) _ _ ⟨rfl, rfl, rfl, trivial⟩ (fin h1 h3 ((n3).trans n4) (New.refl _) k4 (both (my1.mono fun _ _ e => .inl e) (my2.mono fun _ _ e => .inr e)) (my2.blk hy1 hDY) hy2 (by omega) (by omega) (by omega) (by omega) (by omega) (by omega) (by omega) (by omega) (by omega))
      · have n2 := New.alloc (w3.drew.alloc (.cells #[.slice none 0 0, .string ⟨#[]⟩, .string ⟨#[]⟩, .slice none 0 0, .slice none 0 0] 26)) (.cells #[.slice none 0 0, .string ⟨#[]⟩, .string ⟨#[]⟩, .slice none 0 0, .slice none 0 0] 26)
        have hD := heap_alloc_new (w3.drew.alloc (.cells #[.slice none 0 0, .string ⟨#[]⟩, .string ⟨#[]⟩, .slice none 0 0, .slice none 0 0] 26)) (.cells #[.slice none 0 0, .string ⟨#[]⟩, .string ⟨#[]⟩, .slice none 0 0, .slice none 0 0] 26)
        have k2 := k1.trans n2
        have z2 : ((w3.drew.alloc (.cells #[.slice none 0 0, .string ⟨#[]⟩, .string ⟨#[]⟩, .slice none 0 0, .slice none 0 0] 26)).alloc (.cells #[.slice none 0 0, .string ⟨#[]⟩, .string ⟨#[]⟩, .slice none 0 0, .slice none 0 0] 26)).heap.size = (w3.drew.alloc (.cells #[.slice none 0 0, .string ⟨#[]⟩, .string ⟨#[]⟩, .slice none 0 0, .slice none 0 0] 26)).heap.size + 1 := by simp
        refine Exists.intro (fun w'' : World => w''.heap[w.heap.size]? = some (.cells #[.slice A1 m.pool.length a1, strV m.name, strV m.super, .slice F1 m.fields.length f1, .slice M1 m.methods.length m1] 26 (0, 0))) ?_
        refine And.intro (fun _ h => h) ?_
        refine And.intro (k2.blk hM3d) ?_
        refine call_ (CopyS_ok [.slice A1 m.pool.length a1, strV m.name, strV m.super, .slice F1 m.fields.length f1, .slice M1 m.methods.length m1] m S ((w3.drew.alloc (.cells #[.slice none 0 0, .string ⟨#[]⟩, .string ⟨#[]⟩, .slice none 0 0, .slice none 0 0] 26)).alloc (.cells #[.slice none 0 0, .string ⟨#[]⟩, .string ⟨#[]⟩, .slice none 0 0, .slice none 0 0] 26)) (clsOk.mod hx3 (k2.mod.mono fun _ _ e => False.elim e)) hsm) ?_
        rintro e v3 ⟨P2, p2, F2, f2, M2, m2, rfl, h1, n3⟩
        refine ⟨_, rfl, ?_⟩
        have k3 := k2.trans n3
        have z3 := n3.size
        refine Exists.intro (fun w'' : World => w''.heap[w.heap.size]? = some (.cells #[.slice A1 m.pool.length a1, strV m.name, strV m.super, .slice F1 m.fields.length f1, .slice M1 m.methods.length m1] 26 (0, 0))) ?_
        refine And.intro (fun _ h => h) ?_
        refine And.intro (k3.blk hM3d) ?_
        refine call_ (CopyS_ok [.slice A1 m.pool.length a1, strV m.name, strV m.super, .slice F1 m.fields.length f1, .slice M1 m.methods.length m1] m S v3 (clsOk.mod hx3 (k3.mod.mono fun _ _ e => False.elim e)) hsm) ?_
        rintro e v4 ⟨P3, p3, F3, f3, M3, m3, rfl, h3, n4⟩
        refine ⟨_, rfl, ?_⟩
        have k4 := k3.trans n4
        have z4 := n4.size
        refine Exists.intro (fun w'' : World => w''.heap[w.heap.size]? = some (.cells #[.slice A1 m.pool.length a1, strV m.name, strV m.super, .slice F1 m.fields.length f1, .slice M1 m.methods.length m1] 26 (0, 0))) ?_
        refine And.intro (fun _ h => h) ?_
        refine And.intro (k4.blk hM3d) ?_
        have hDY : ¬ (w3.drew.alloc (.cells #[.slice none 0 0, .string ⟨#[]⟩, .string ⟨#[]⟩, .slice none 0 0, .slice none 0 0] 26)).heap.size = w3.drew.heap.size := by omega
        have hDM : ¬ w.heap.size = (w3.drew.alloc (.cells #[.slice none 0 0, .string ⟨#[]⟩, .string ⟨#[]⟩, .slice none 0 0, .slice none 0 0] 26)).heap.size := by omega
        refine And.intro rfl ?_
        refine storeN_all (vs := [.slice P2 m.pool.length p2, strV m.name, strV m.super, .slice F2 m.fields.length f2, .slice M2 m.methods.length m2]) (((n3).trans n4).blk hD) rfl (one_cls5 _ _ _ _ _ _ _ _ _ _ _) ?_
        intro y1 hy1 my1 sy1
        refine Exists.intro (fun w'' : World => w''.heap[w.heap.size]? = some (.cells #[.slice A1 m.pool.length a1, strV m.name, strV m.super, .slice F1 m.fields.length f1, .slice M1 m.methods.length m1] 26 (0, 0))) ?_
        refine And.intro (fun _ h => h) ?_
        refine And.intro (my1.blk (k4.blk hM3d) hDM) ?_
        refine And.intro rfl ?_
        refine storeN_all (vs := [.slice P3 m.pool.length p3, strV m.name, strV m.super, .slice F3 m.fields.length f3, .slice M3 m.methods.length m3]) (my1.blk ((((n2).trans n3).trans n4).blk hY) (fun e => hDY e.symm)) rfl (one_cls5 _ _ _ _ _ _ _ _ _ _ _) ?_
        intro y2 hy2 my2 sy2
        exact hK ((w3.drew.alloc (.cells #[.slice none 0 0, .string ⟨#[]⟩, .string ⟨#[]⟩, .slice none 0 0, .slice none 0 0] 26)).heap.size, w3.drew.heap.size) _ _ ⟨rfl, rfl, rfl, trivial⟩ (fin h1 h3 (n4) (New.refl _) k4 (both (my1.mono fun _ _ e => .inl e) (my2.mono fun _ _ e => .inr e)) (my2.blk hy1 hDY) hy2 (by omega) (by omega) (by omega) (by omega) (by omega) (by omega) (by omega) (by omega) (by omega))
  rintro ⟨D, Y⟩ w5 fr5 ⟨T, P2, p2, F2, f2, M2, m2, P3, p3, F3, f3, M3, m3, n5, hM5, hD, hY, hd, hy5, hTD, hTY, hTw⟩
  dsimp only at hD hY hTD hTY
  clear fin
  obtain ⟨_, _, _, he, lP, lF, lM⟩ := hd
  simp only [List.cons.injEq, and_true] at he
  obtain ⟨rfl, _, _, rfl, rfl⟩ := he
  obtain ⟨q1, q2, q3, _⟩ := id hsm
  refine seq_cut (σ := Unit) (fun _ => [(1, .pointer (some ⟨w.heap.size, 0, none⟩)), (3, .pointer (some ⟨D, 0, none⟩)), (4, .pointer (some ⟨Y, 0, none⟩))]) (fun _ w' => Soft w5 w' ∧ Mod T w5 w') ?_ ?_
  rotate_left
  · intro hKo_K hKo
    refine seq_assign ?_
    refine den_loop (σ := Nat) (fun i => [(1, .pointer (some ⟨w.heap.size, 0, none⟩)), (3, .pointer (some ⟨D, 0, none⟩)), (4, .pointer (some ⟨Y, 0, none⟩)), (5, zi (i : Int))]) (fun m_i i wli => m_i + i = m.pool.length ∧ Soft w5 wli ∧ Mod T w5 wli) m.pool.length 0 ⟨rfl, rfl, rfl, rfl, trivial⟩ ⟨rfl, Soft.refl _, Mod.refl _ _⟩ ?_
    rintro m_i i wli frli ⟨hfuel_i, si, ti⟩
    refine seq_cut (σ := Unit) (fun _ => [(1, .pointer (some ⟨w.heap.size, 0, none⟩)), (3, .pointer (some ⟨D, 0, none⟩)), (4, .pointer (some ⟨Y, 0, none⟩)), (5, zi (i : Int))]) (fun _ w' => w' = wli ∧ i < m.pool.length) ?_ ?_
    rotate_left
    · intro hKc_K hKc
      refine Exists.intro P2 (Exists.intro m.pool.length (Exists.intro p2 (And.intro (cellB (ti.blk hD hTD) rfl) ?_)))
      refine if_p (fun hlt => ?_) (fun hge => ?_)
      · replace hlt : (i : Int) < (m.pool.length : Int) := hlt
        exact hKc () _ _ ⟨rfl, rfl, rfl, rfl, trivial⟩ ⟨rfl, by omega⟩
      · exact hKo () _ _ ⟨rfl, rfl, rfl, trivial⟩ ⟨si, ti⟩
    rintro _ wqi frqi ⟨hwq, hi⟩
    obtain rfl := hwq.symm
    have hlti : (i : Int) < (m.pool.length : Int) := by omega
    obtain ⟨m_i, rfl⟩ : ∃ m', m_i = m' + 1 := ⟨m_i - 1, by omega⟩
    have inci : Value.int .i64 (IntKind.i64.wrap ((i : Int) + 1)) = .int .i64 ((i + 1 : Nat) : Int) := incN hi (by omega)
    refine seq_cut (σ := Unit) (fun _ => [(1, .pointer (some ⟨w.heap.size, 0, none⟩)), (3, .pointer (some ⟨D, 0, none⟩)), (4, .pointer (some ⟨Y, 0, none⟩)), (5, zi (i : Int))]) (fun _ w' => Soft w5 w' ∧ Mod T w5 w') ?_ ?_
    · rintro _ wz frz hz
      exact ⟨m_i, i + 1, by omega, ⟨rfl, rfl, rfl, inci, trivial⟩, by omega, hz⟩
    intro hKbi_K hKbi
    refine block_ ?_
    obtain ⟨g_, arr_, rfl, hb_, hj_, hT_⟩ := (lP.wrt _ _ rfl).at_ si hi (show 2 < 5 by decide)
    refine Exists.intro (some ⟨g_, 0, none⟩) (Exists.intro m.pool.length (Exists.intro p2 (And.intro (cellB (ti.blk hD hTD) rfl) ?_)))
    refine And.intro (by omega) (And.intro hlti ?_)
    refine And.intro (exA (adr2 g_ i 5 2) hb_ hj_) (And.intro (fzA (adr2 g_ i 5 2) hb_) (force_ ?_))
    refine stA (adr2 g_ i 5 2) hb_ hj_ ?_
    intro wz hz mz sz
    have tz : Mod T wli wz := mz.mono fun b _ e => by rw [e]; exact hT_
    exact hKbi () _ _ ⟨rfl, rfl, rfl, rfl, trivial⟩ ⟨si.trans (Soft.set hb_ hz mz (by decide) (fun e => absurd e (by decide))), both ti tz⟩
  rintro _ w6 fr6 ⟨s6, t6⟩
  refine seq_cut (σ := Unit) (fun _ => [(1, .pointer (some ⟨w.heap.size, 0, none⟩)), (3, .pointer (some ⟨D, 0, none⟩)), (4, .pointer (some ⟨Y, 0, none⟩))]) (fun _ w' => Soft w5 w' ∧ Mod T w5 w') ?_ ?_
  rotate_left
  · intro hKo_K hKo
    refine seq_assign ?_
    refine den_loop (σ := Nat) (fun i => [(1, .pointer (some ⟨w.heap.size, 0, none⟩)), (3, .pointer (some ⟨D, 0, none⟩)), (4, .pointer (some ⟨Y, 0, none⟩)), (6, zi (i : Int))]) (fun m_i i wli => m_i + i = m.fields.length ∧ Soft w5 wli ∧ Mod T w5 wli) m.fields.length 0 ⟨rfl, rfl, rfl, rfl, trivial⟩ ⟨rfl, s6, t6⟩ ?_
    rintro m_i i wli frli ⟨hfuel_i, si, ti⟩
    refine seq_cut (σ := Unit) (fun _ => [(1, .pointer (some ⟨w.heap.size, 0, none⟩)), (3, .pointer (some ⟨D, 0, none⟩)), (4, .pointer (some ⟨Y, 0, none⟩)), (6, zi (i : Int))]) (fun _ w' => w' = wli ∧ i < m.fields.length) ?_ ?_
    rotate_left
    · intro hKc_K hKc
      refine Exists.intro F2 (Exists.intro m.fields.length (Exists.intro f2 (And.intro (cellB (ti.blk hD hTD) rfl) ?_)))
      refine if_p (fun hlt => ?_) (fun hge => ?_)
      · replace hlt : (i : Int) < (m.fields.length : Int) := hlt
        exact hKc () _ _ ⟨rfl, rfl, rfl, rfl, trivial⟩ ⟨rfl, by omega⟩
      · exact hKo () _ _ ⟨rfl, rfl, rfl, trivial⟩ ⟨si, ti⟩
    rintro _ wqi frqi ⟨hwq, hi⟩
    obtain rfl := hwq.symm
    have hlti : (i : Int) < (m.fields.length : Int) := by omega
    obtain ⟨m_i, rfl⟩ : ∃ m', m_i = m' + 1 := ⟨m_i - 1, by omega⟩
    have inci : Value.int .i64 (IntKind.i64.wrap ((i : Int) + 1)) = .int .i64 ((i + 1 : Nat) : Int) := incN hi (by omega)
    refine seq_cut (σ := Unit) (fun _ => [(1, .pointer (some ⟨w.heap.size, 0, none⟩)), (3, .pointer (some ⟨D, 0, none⟩)), (4, .pointer (some ⟨Y, 0, none⟩)), (6, zi (i : Int))]) (fun _ w' => Soft w5 w' ∧ Mod T w5 w') ?_ ?_
    · rintro _ wz frz hz
      exact ⟨m_i, i + 1, by omega, ⟨rfl, rfl, rfl, inci, trivial⟩, by omega, hz⟩
    intro hKbi_K hKbi
    refine block_ ?_
    obtain ⟨g_, arr_, rfl, hb_, hj_, hT_⟩ := (lF.wrt _ _ rfl).at_ si hi (show 1 < 3 by decide)
    refine Exists.intro (some ⟨g_, 0, none⟩) (Exists.intro m.fields.length (Exists.intro f2 (And.intro (cellB (ti.blk hD hTD) rfl) ?_)))
    refine And.intro (by omega) (And.intro hlti ?_)
    refine And.intro (exA (adr2 g_ i 3 1) hb_ hj_) (And.intro (fzA (adr2 g_ i 3 1) hb_) (force_ ?_))
    refine stA (adr2 g_ i 3 1) hb_ hj_ ?_
    intro wz hz mz sz
    have tz : Mod T wli wz := mz.mono fun b _ e => by rw [e]; exact hT_
    exact hKbi () _ _ ⟨rfl, rfl, rfl, rfl, trivial⟩ ⟨si.trans (Soft.set hb_ hz mz (by decide) (fun e => absurd e (by decide))), both ti tz⟩
  rintro _ w7 fr7 ⟨s7, t7⟩
  refine seq_cut (σ := Unit) (fun _ => [(1, .pointer (some ⟨w.heap.size, 0, none⟩)), (3, .pointer (some ⟨D, 0, none⟩)), (4, .pointer (some ⟨Y, 0, none⟩))]) (fun _ w' => Soft w5 w' ∧ Mod T w5 w') ?_ ?_
  rotate_left
  · intro hKo_K hKo
    refine seq_assign ?_
    refine den_loop (σ := Nat) (fun i => [(1, .pointer (some ⟨w.heap.size, 0, none⟩)), (3, .pointer (some ⟨D, 0, none⟩)), (4, .pointer (some ⟨Y, 0, none⟩)), (7, zi (i : Int))]) (fun m_i i wli => m_i + i = m.methods.length ∧ Soft w5 wli ∧ Mod T w5 wli) m.methods.length 0 ⟨rfl, rfl, rfl, rfl, trivial⟩ ⟨rfl, s7, t7⟩ ?_
    rintro m_i i wli frli ⟨hfuel_i, si, ti⟩
    refine seq_cut (σ := Unit) (fun _ => [(1, .pointer (some ⟨w.heap.size, 0, none⟩)), (3, .pointer (some ⟨D, 0, none⟩)), (4, .pointer (some ⟨Y, 0, none⟩)), (7, zi (i : Int))]) (fun _ w' => w' = wli ∧ i < m.methods.length) ?_ ?_
    rotate_left
    · intro hKc_K hKc
      refine Exists.intro M2 (Exists.intro m.methods.length (Exists.intro m2 (And.intro (cellB (ti.blk hD hTD) rfl) ?_)))
      refine if_p (fun hlt => ?_) (fun hge => ?_)
      · replace hlt : (i : Int) < (m.methods.length : Int) := hlt
        exact hKc () _ _ ⟨rfl, rfl, rfl, rfl, trivial⟩ ⟨rfl, by omega⟩
      · exact hKo () _ _ ⟨rfl, rfl, rfl, trivial⟩ ⟨si, ti⟩
    rintro _ wqi frqi ⟨hwq, hi⟩
    obtain rfl := hwq.symm
    have hlti : (i : Int) < (m.methods.length : Int) := by omega
    obtain ⟨m_i, rfl⟩ : ∃ m', m_i = m' + 1 := ⟨m_i - 1, by omega⟩
    have inci : Value.int .i64 (IntKind.i64.wrap ((i : Int) + 1)) = .int .i64 ((i + 1 : Nat) : Int) := incN hi (by omega)
    refine seq_cut (σ := Unit) (fun _ => [(1, .pointer (some ⟨w.heap.size, 0, none⟩)), (3, .pointer (some ⟨D, 0, none⟩)), (4, .pointer (some ⟨Y, 0, none⟩)), (7, zi (i : Int))]) (fun _ w' => Soft w5 w' ∧ Mod T w5 w') ?_ ?_
    · rintro _ wz frz hz
      exact ⟨m_i, i + 1, by omega, ⟨rfl, rfl, rfl, inci, trivial⟩, by omega, hz⟩
    intro hKbi_K hKbi
    refine block_ ?_
    refine seq_cut (σ := Unit) (fun _ => [(1, .pointer (some ⟨w.heap.size, 0, none⟩)), (3, .pointer (some ⟨D, 0, none⟩)), (4, .pointer (some ⟨Y, 0, none⟩)), (7, zi (i : Int))]) (fun _ w' => Soft w5 w' ∧ Mod T w5 w') ?_ ?_
    rotate_left
    · intro hKn_K hKn
      obtain ⟨g_, arr_, rfl, hb_, hj_, hT_⟩ := (lM.wrt _ _ rfl).at_ si hi (show 1 < 8 by decide)
      refine Exists.intro (some ⟨g_, 0, none⟩) (Exists.intro m.methods.length (Exists.intro m2 (And.intro (cellB (ti.blk hD hTD) rfl) ?_)))
      refine And.intro (by omega) (And.intro hlti ?_)
      refine And.intro (exA (adr2 g_ i 8 1) hb_ hj_) (And.intro (fzA (adr2 g_ i 8 1) hb_) (force_ ?_))
      refine stA (adr2 g_ i 8 1) hb_ hj_ ?_
      intro wz hz mz sz
      have tz : Mod T wli wz := mz.mono fun b _ e => by rw [e]; exact hT_
      exact hKn () _ _ ⟨rfl, rfl, rfl, rfl, trivial⟩ ⟨si.trans (Soft.set hb_ hz mz (by decide) (fun e => by omega)), both ti tz⟩
    rintro _ wn frn ⟨sn, tn⟩
    obtain ⟨gM, curM, csM, rfl, hbM, hxM, hcM⟩ := lM.at_ mthOOk (by decide) hi
    obtain ⟨y, hy⟩ : ∃ y, y = m.methods[i] := ⟨_, rfl⟩
    have hyl : y.code.bytes.length ≤ 5000 ∧ y.code.hands.length ≤ 5000 ∧ y.code.maps.length ≤ 5000 ∧ ∀ p ∈ y.code.maps, p.locals.length ≤ 5000 ∧ p.stack.length ≤ 5000 := hsm.2.2.2 y (by rw [hy]; exact List.getElem_mem hi)
    obtain ⟨y1, y2, y3, y4⟩ := hyl
    rw [← hy] at hxM
    obtain ⟨_, _, _, rfl, lB, lH, lD⟩ := hxM
    obtain ⟨B2, b2, rfl, _⟩ := lB.rep.get u8Ok (by decide)
    obtain ⟨H2, h2, rfl, _⟩ := lH.rep.get hndOk (by decide)
    obtain ⟨D2, d2, rfl, _⟩ := lD.rep.get mpOOk (by decide)
    have row : ∀ wl, Soft w5 wl → ∃ arr, wl.heap[gM]? = some (.cells arr 36 (0, 0)) ∧ ∀ k u, k ≠ 1 → k < 8 → [zi y.acc, strV y.name, strV y.typ, zi y.code.stack, zi y.code.locals, .slice B2 y.code.bytes.length b2, .slice H2 y.code.hands.length h2, .slice D2 y.code.maps.length d2][k]? = some u → arr[i * 8 + k]? = some u := fun wl s => by
      obtain ⟨arr, e1, _, _, e2⟩ := s gM curM _ hbM
      refine ⟨arr, e1, fun k u h1 h8 hu => ?_⟩
      rw [e2 rfl _ (by omega)]
      exact hcM k u hu
    refine seq_cut (σ := Unit) (fun _ => [(1, .pointer (some ⟨w.heap.size, 0, none⟩)), (3, .pointer (some ⟨D, 0, none⟩)), (4, .pointer (some ⟨Y, 0, none⟩)), (7, zi (i : Int))]) (fun _ w' => Soft w5 w' ∧ Mod T w5 w') ?_ ?_
    rotate_left
    · intro hKo_K hKo
      refine seq_assign ?_
      refine den_loop (σ := Nat) (fun k => [(1, .pointer (some ⟨w.heap.size, 0, none⟩)), (3, .pointer (some ⟨D, 0, none⟩)), (4, .pointer (some ⟨Y, 0, none⟩)), (7, zi (i : Int)), (8, zi (k : Int))]) (fun m_k k wlk => m_k + k = y.code.bytes.length ∧ Soft w5 wlk ∧ Mod T w5 wlk) y.code.bytes.length 0 ⟨rfl, rfl, rfl, rfl, rfl, trivial⟩ ⟨rfl, sn, tn⟩ ?_
      rintro m_k k wlk frlk ⟨hfuel_k, sk, tk⟩
      refine seq_cut (σ := Unit) (fun _ => [(1, .pointer (some ⟨w.heap.size, 0, none⟩)), (3, .pointer (some ⟨D, 0, none⟩)), (4, .pointer (some ⟨Y, 0, none⟩)), (7, zi (i : Int)), (8, zi (k : Int))]) (fun _ w' => w' = wlk ∧ k < y.code.bytes.length) ?_ ?_
      rotate_left
      · intro hKc_K hKc
        obtain ⟨arrM_, hr_, hc_⟩ := row wlk sk
        refine Exists.intro (some ⟨gM, 0, none⟩) (Exists.intro m.methods.length (Exists.intro m2 (And.intro (cellB (tk.blk hD hTD) rfl) ?_)))
        refine And.intro (by omega) (And.intro hlti ?_)
        refine Exists.intro B2 (Exists.intro y.code.bytes.length (Exists.intro b2 (And.intro (cellA (adr3 gM i 8 3 2) hr_ (hc_ 5 _ (by decide) (by decide) rfl)) ?_)))
        refine if_p (fun hlt => ?_) (fun hge => ?_)
        · replace hlt : (k : Int) < (y.code.bytes.length : Int) := hlt
          exact hKc () _ _ ⟨rfl, rfl, rfl, rfl, rfl, trivial⟩ ⟨rfl, by omega⟩
        · exact hKo () _ _ ⟨rfl, rfl, rfl, rfl, trivial⟩ ⟨sk, tk⟩
      rintro _ wqk frqk ⟨hwq, hk⟩
      obtain rfl := hwq.symm
      have hltk : (k : Int) < (y.code.bytes.length : Int) := by omega
      obtain ⟨m_k, rfl⟩ : ∃ m', m_k = m' + 1 := ⟨m_k - 1, by omega⟩
      have inck : Value.int .i64 (IntKind.i64.wrap ((k : Int) + 1)) = .int .i64 ((k + 1 : Nat) : Int) := incN hk (by omega)
      refine seq_cut (σ := Unit) (fun _ => [(1, .pointer (some ⟨w.heap.size, 0, none⟩)), (3, .pointer (some ⟨D, 0, none⟩)), (4, .pointer (some ⟨Y, 0, none⟩)), (7, zi (i : Int)), (8, zi (k : Int))]) (fun _ w' => Soft w5 w' ∧ Mod T w5 w') ?_ ?_
      · rintro _ wz frz hz
        exact ⟨m_k, k + 1, by omega, ⟨rfl, rfl, rfl, rfl, inck, trivial⟩, by omega, hz⟩
      intro hKbk_K hKbk
      refine block_ ?_
      obtain ⟨g_, arr_, rfl, hb_, hj_, hT_⟩ := (lB.wrt _ _ rfl).at_ sk hk (show 0 < 1 by decide)
      obtain ⟨arrM_, hr_, hc_⟩ := row wlk sk
      refine Exists.intro (some ⟨gM, 0, none⟩) (Exists.intro m.methods.length (Exists.intro m2 (And.intro (cellB (tk.blk hD hTD) rfl) ?_)))
      refine And.intro (by omega) (And.intro hlti ?_)
      refine Exists.intro (some ⟨g_, 0, none⟩) (Exists.intro y.code.bytes.length (Exists.intro b2 (And.intro (cellA (adr3 gM i 8 3 2) hr_ (hc_ 5 _ (by decide) (by decide) rfl)) ?_)))
      refine And.intro (by omega) (And.intro hltk ?_)
      refine And.intro (exA (adr1 g_ k 1) hb_ hj_) (And.intro (fzA (adr1 g_ k 1) hb_) (force_ ?_))
      refine stA (adr1 g_ k 1) hb_ hj_ ?_
      intro wz hz mz sz
      have tz : Mod T wlk wz := mz.mono fun b _ e => by rw [e]; exact hT_
      exact hKbk () _ _ ⟨rfl, rfl, rfl, rfl, rfl, trivial⟩ ⟨sk.trans (Soft.set hb_ hz mz (by decide) (fun e => absurd e (by decide))), both tk tz⟩
    rintro _ wo fro ⟨so, to⟩
    refine seq_cut (σ := Unit) (fun _ => [(1, .pointer (some ⟨w.heap.size, 0, none⟩)), (3, .pointer (some ⟨D, 0, none⟩)), (4, .pointer (some ⟨Y, 0, none⟩)), (7, zi (i : Int))]) (fun _ w' => Soft w5 w' ∧ Mod T w5 w') ?_ ?_
    rotate_left
    · intro hKo_K hKo
      refine seq_assign ?_
      refine den_loop (σ := Nat) (fun k => [(1, .pointer (some ⟨w.heap.size, 0, none⟩)), (3, .pointer (some ⟨D, 0, none⟩)), (4, .pointer (some ⟨Y, 0, none⟩)), (7, zi (i : Int)), (9, zi (k : Int))]) (fun m_k k wlk => m_k + k = y.code.hands.length ∧ Soft w5 wlk ∧ Mod T w5 wlk) y.code.hands.length 0 ⟨rfl, rfl, rfl, rfl, rfl, trivial⟩ ⟨rfl, so, to⟩ ?_
      rintro m_k k wlk frlk ⟨hfuel_k, sk, tk⟩
      refine seq_cut (σ := Unit) (fun _ => [(1, .pointer (some ⟨w.heap.size, 0, none⟩)), (3, .pointer (some ⟨D, 0, none⟩)), (4, .pointer (some ⟨Y, 0, none⟩)), (7, zi (i : Int)), (9, zi (k : Int))]) (fun _ w' => w' = wlk ∧ k < y.code.hands.length) ?_ ?_
      rotate_left
      · intro hKc_K hKc
        obtain ⟨arrM_, hr_, hc_⟩ := row wlk sk
        refine Exists.intro (some ⟨gM, 0, none⟩) (Exists.intro m.methods.length (Exists.intro m2 (And.intro (cellB (tk.blk hD hTD) rfl) ?_)))
        refine And.intro (by omega) (And.intro hlti ?_)
        refine Exists.intro H2 (Exists.intro y.code.hands.length (Exists.intro h2 (And.intro (cellA (adr3 gM i 8 3 3) hr_ (hc_ 6 _ (by decide) (by decide) rfl)) ?_)))
        refine if_p (fun hlt => ?_) (fun hge => ?_)
        · replace hlt : (k : Int) < (y.code.hands.length : Int) := hlt
          exact hKc () _ _ ⟨rfl, rfl, rfl, rfl, rfl, trivial⟩ ⟨rfl, by omega⟩
        · exact hKo () _ _ ⟨rfl, rfl, rfl, rfl, trivial⟩ ⟨sk, tk⟩
      rintro _ wqk frqk ⟨hwq, hk⟩
      obtain rfl := hwq.symm
      have hltk : (k : Int) < (y.code.hands.length : Int) := by omega
      obtain ⟨m_k, rfl⟩ : ∃ m', m_k = m' + 1 := ⟨m_k - 1, by omega⟩
      have inck : Value.int .i64 (IntKind.i64.wrap ((k : Int) + 1)) = .int .i64 ((k + 1 : Nat) : Int) := incN hk (by omega)
      refine seq_cut (σ := Unit) (fun _ => [(1, .pointer (some ⟨w.heap.size, 0, none⟩)), (3, .pointer (some ⟨D, 0, none⟩)), (4, .pointer (some ⟨Y, 0, none⟩)), (7, zi (i : Int)), (9, zi (k : Int))]) (fun _ w' => Soft w5 w' ∧ Mod T w5 w') ?_ ?_
      · rintro _ wz frz hz
        exact ⟨m_k, k + 1, by omega, ⟨rfl, rfl, rfl, rfl, inck, trivial⟩, by omega, hz⟩
      intro hKbk_K hKbk
      refine block_ ?_
      obtain ⟨g_, arr_, rfl, hb_, hj_, hT_⟩ := (lH.wrt _ _ rfl).at_ sk hk (show 2 < 4 by decide)
      obtain ⟨arrM_, hr_, hc_⟩ := row wlk sk
      refine Exists.intro (some ⟨gM, 0, none⟩) (Exists.intro m.methods.length (Exists.intro m2 (And.intro (cellB (tk.blk hD hTD) rfl) ?_)))
      refine And.intro (by omega) (And.intro hlti ?_)
      refine Exists.intro (some ⟨g_, 0, none⟩) (Exists.intro y.code.hands.length (Exists.intro h2 (And.intro (cellA (adr3 gM i 8 3 3) hr_ (hc_ 6 _ (by decide) (by decide) rfl)) ?_)))
      refine And.intro (by omega) (And.intro hltk ?_)
      refine And.intro (exA (adr2 g_ k 4 2) hb_ hj_) (And.intro (fzA (adr2 g_ k 4 2) hb_) (force_ ?_))
      refine stA (adr2 g_ k 4 2) hb_ hj_ ?_
      intro wz hz mz sz
      have tz : Mod T wlk wz := mz.mono fun b _ e => by rw [e]; exact hT_
      exact hKbk () _ _ ⟨rfl, rfl, rfl, rfl, rfl, trivial⟩ ⟨sk.trans (Soft.set hb_ hz mz (by decide) (fun e => absurd e (by decide))), both tk tz⟩
    rintro _ wp frp ⟨sp, tp⟩
    refine seq_assign ?_
    refine den_loop (σ := Nat) (fun k => [(1, .pointer (some ⟨w.heap.size, 0, none⟩)), (3, .pointer (some ⟨D, 0, none⟩)), (4, .pointer (some ⟨Y, 0, none⟩)), (7, zi (i : Int)), (10, zi (k : Int))]) (fun m_k k wlk => m_k + k = y.code.maps.length ∧ Soft w5 wlk ∧ Mod T w5 wlk) y.code.maps.length 0 ⟨rfl, rfl, rfl, rfl, rfl, trivial⟩ ⟨rfl, sp, tp⟩ ?_
    rintro m_k k wlk frlk ⟨hfuel_k, sk, tk⟩
    refine seq_cut (σ := Unit) (fun _ => [(1, .pointer (some ⟨w.heap.size, 0, none⟩)), (3, .pointer (some ⟨D, 0, none⟩)), (4, .pointer (some ⟨Y, 0, none⟩)), (7, zi (i : Int)), (10, zi (k : Int))]) (fun _ w' => w' = wlk ∧ k < y.code.maps.length) ?_ ?_
    rotate_left
    · intro hKc_K hKc
      obtain ⟨arrM_, hr_, hc_⟩ := row wlk sk
      refine Exists.intro (some ⟨gM, 0, none⟩) (Exists.intro m.methods.length (Exists.intro m2 (And.intro (cellB (tk.blk hD hTD) rfl) ?_)))
      refine And.intro (by omega) (And.intro hlti ?_)
      refine Exists.intro D2 (Exists.intro y.code.maps.length (Exists.intro d2 (And.intro (cellA (adr3 gM i 8 3 4) hr_ (hc_ 7 _ (by decide) (by decide) rfl)) ?_)))
      refine if_p (fun hlt => ?_) (fun hge => ?_)
      · replace hlt : (k : Int) < (y.code.maps.length : Int) := hlt
        exact hKc () _ _ ⟨rfl, rfl, rfl, rfl, rfl, trivial⟩ ⟨rfl, by omega⟩
      · exact hKbi () _ _ ⟨rfl, rfl, rfl, rfl, trivial⟩ ⟨sk, tk⟩
    rintro _ wqk frqk ⟨hwq, hk⟩
    obtain rfl := hwq.symm
    have hltk : (k : Int) < (y.code.maps.length : Int) := by omega
    obtain ⟨m_k, rfl⟩ : ∃ m', m_k = m' + 1 := ⟨m_k - 1, by omega⟩
    have inck : Value.int .i64 (IntKind.i64.wrap ((k : Int) + 1)) = .int .i64 ((k + 1 : Nat) : Int) := incN hk (by omega)
    refine seq_cut (σ := Unit) (fun _ => [(1, .pointer (some ⟨w.heap.size, 0, none⟩)), (3, .pointer (some ⟨D, 0, none⟩)), (4, .pointer (some ⟨Y, 0, none⟩)), (7, zi (i : Int)), (10, zi (k : Int))]) (fun _ w' => Soft w5 w' ∧ Mod T w5 w') ?_ ?_
    · rintro _ wz frz hz
      exact ⟨m_k, k + 1, by omega, ⟨rfl, rfl, rfl, rfl, inck, trivial⟩, by omega, hz⟩
    intro hKbk_K hKbk
    refine block_ ?_
    obtain ⟨gD, curD, csD, rfl, hbD, hxD, hcD⟩ := lD.at_ mpOOk (by decide) hk
    obtain ⟨u, hu⟩ : ∃ u, u = y.code.maps[k] := ⟨_, rfl⟩
    obtain ⟨u1, u2⟩ := y4 u (by rw [hu]; exact List.getElem_mem hk)
    rw [← hu] at hxD
    obtain ⟨_, _, rfl, lL, lS⟩ := hxD
    obtain ⟨L2, l2, rfl, _⟩ := lL.rep.get tyOk (by decide)
    obtain ⟨T2, t2, rfl, _⟩ := lS.rep.get tyOk (by decide)
    refine seq_cut (σ := Nat) (fun E => [(1, .pointer (some ⟨w.heap.size, 0, none⟩)), (3, .pointer (some ⟨D, 0, none⟩)), (4, .pointer (some ⟨Y, 0, none⟩)), (7, zi (i : Int)), (10, zi (k : Int)), (11, .pointer (some ⟨E, 0, none⟩))]) (fun E w' => Soft w5 w' ∧ Mod T w5 w' ∧ w'.heap[E]? = some (.cells #[zi u.at_, .slice L2 u.locals.length l2, .slice T2 u.stack.length t2] 49 (0, 0)) ∧ ¬ T E) ?_ ?_
    rotate_left
    · intro hKe_K hKe
      obtain ⟨arrM_, hr_, hc_⟩ := row wlk sk
      refine Exists.intro (some ⟨gM, 0, none⟩) (Exists.intro m.methods.length (Exists.intro m2 (And.intro (cellB (tk.blk hD hTD) rfl) ?_)))
      refine And.intro (by omega) (And.intro hlti ?_)
      refine Exists.intro (some ⟨gD, 0, none⟩) (Exists.intro y.code.maps.length (Exists.intro d2 (And.intro (cellA (adr3 gM i 8 3 4) hr_ (hc_ 7 _ (by decide) (by decide) rfl)) ?_)))
      refine And.intro (by omega) (And.intro hltk ?_)
      obtain ⟨arrD_, eD1, _, eD2, _⟩ := sk gD curD _ hbD
      rw [eD2 rfl] at eD1
      refine loadN_row (vs := [zi u.at_, .slice L2 u.locals.length l2, .slice T2 u.stack.length t2]) (fun j v hv => cellA (adr2 gD k 3 j) eD1 (hcD j v hv)) rfl ?_
      refine And.intro rfl ?_
      refine storeNew (vs := [zi u.at_, .slice L2 u.locals.length l2, .slice T2 u.stack.length t2]) (arr := #[zi 0, .slice none 0 0, .slice none 0 0]) rfl (one_mp _ _ _ _ _ _ _) ?_
      intro wE hE nE sE
      have hsz := tk.size
      exact hKe wlk.heap.size _ _ ⟨rfl, rfl, rfl, rfl, rfl, rfl, trivial⟩ ⟨sk.trans (Soft.new nE), both tk nE.mod, hE, fun e => by have := (hTw _ e).2; omega⟩
    rintro E wE frE ⟨sE, tE, heE, hTE⟩
    refine seq_cut (σ := Unit) (fun _ => [(1, .pointer (some ⟨w.heap.size, 0, none⟩)), (3, .pointer (some ⟨D, 0, none⟩)), (4, .pointer (some ⟨Y, 0, none⟩)), (7, zi (i : Int)), (10, zi (k : Int)), (11, .pointer (some ⟨E, 0, none⟩))]) (fun _ w' => Soft w5 w' ∧ Mod T w5 w' ∧ w'.heap[E]? = some (.cells #[zi u.at_, .slice L2 u.locals.length l2, .slice T2 u.stack.length t2] 49 (0, 0))) ?_ ?_
    rotate_left
    · intro hKo_K hKo
      refine seq_assign ?_
      refine den_loop (σ := Nat) (fun j => [(1, .pointer (some ⟨w.heap.size, 0, none⟩)), (3, .pointer (some ⟨D, 0, none⟩)), (4, .pointer (some ⟨Y, 0, none⟩)), (7, zi (i : Int)), (10, zi (k : Int)), (11, .pointer (some ⟨E, 0, none⟩)), (12, zi (j : Int))]) (fun m_j j wlj => m_j + j = u.locals.length ∧ Soft w5 wlj ∧ Mod T w5 wlj ∧ wlj.heap[E]? = some (.cells #[zi u.at_, .slice L2 u.locals.length l2, .slice T2 u.stack.length t2] 49 (0, 0))) u.locals.length 0 ⟨rfl, rfl, rfl, rfl, rfl, rfl, rfl, trivial⟩ ⟨rfl, sE, tE, heE⟩ ?_
      rintro m_j j wlj frlj ⟨hfuel_j, sj, tj, hej⟩
      refine seq_cut (σ := Unit) (fun _ => [(1, .pointer (some ⟨w.heap.size, 0, none⟩)), (3, .pointer (some ⟨D, 0, none⟩)), (4, .pointer (some ⟨Y, 0, none⟩)), (7, zi (i : Int)), (10, zi (k : Int)), (11, .pointer (some ⟨E, 0, none⟩)), (12, zi (j : Int))]) (fun _ w' => w' = wlj ∧ j < u.locals.length) ?_ ?_
      rotate_left
      · intro hKc_K hKc
        refine Exists.intro L2 (Exists.intro u.locals.length (Exists.intro l2 (And.intro (cellB hej rfl) ?_)))
        refine if_p (fun hlt => ?_) (fun hge => ?_)
        · replace hlt : (j : Int) < (u.locals.length : Int) := hlt
          exact hKc () _ _ ⟨rfl, rfl, rfl, rfl, rfl, rfl, rfl, trivial⟩ ⟨rfl, by omega⟩
        · exact hKo () _ _ ⟨rfl, rfl, rfl, rfl, rfl, rfl, trivial⟩ ⟨sj, tj, hej⟩
      rintro _ wqj frqj ⟨hwq, hj⟩
      obtain rfl := hwq.symm
      have hltj : (j : Int) < (u.locals.length : Int) := by omega
      obtain ⟨m_j, rfl⟩ : ∃ m', m_j = m' + 1 := ⟨m_j - 1, by omega⟩
      have incj : Value.int .i64 (IntKind.i64.wrap ((j : Int) + 1)) = .int .i64 ((j + 1 : Nat) : Int) := incN hj (by omega)
      refine seq_cut (σ := Unit) (fun _ => [(1, .pointer (some ⟨w.heap.size, 0, none⟩)), (3, .pointer (some ⟨D, 0, none⟩)), (4, .pointer (some ⟨Y, 0, none⟩)), (7, zi (i : Int)), (10, zi (k : Int)), (11, .pointer (some ⟨E, 0, none⟩)), (12, zi (j : Int))]) (fun _ w' => Soft w5 w' ∧ Mod T w5 w' ∧ w'.heap[E]? = some (.cells #[zi u.at_, .slice L2 u.locals.length l2, .slice T2 u.stack.length t2] 49 (0, 0))) ?_ ?_
      · rintro _ wz frz hz
        exact ⟨m_j, j + 1, by omega, ⟨rfl, rfl, rfl, rfl, rfl, rfl, incj, trivial⟩, by omega, hz⟩
      intro hKbj_K hKbj
      refine block_ ?_
      obtain ⟨g_, arr_, rfl, hb_, hj_, hT_⟩ := (lL.wrt _ _ rfl).at_ sj hj (show 0 < 2 by decide)
      refine Exists.intro (some ⟨g_, 0, none⟩) (Exists.intro u.locals.length (Exists.intro l2 (And.intro (cellB hej rfl) ?_)))
      refine And.intro (by omega) (And.intro hltj ?_)
      refine And.intro (exA (adr2 g_ j 2 0) hb_ hj_) (And.intro (fzA (adr2 g_ j 2 0) hb_) (force_ ?_))
      refine stA (adr2 g_ j 2 0) hb_ hj_ ?_
      intro wz hz mz sz
      have tz : Mod T wlj wz := mz.mono fun b _ e => by rw [e]; exact hT_
      exact hKbj () _ _ ⟨rfl, rfl, rfl, rfl, rfl, rfl, rfl, trivial⟩ ⟨sj.trans (Soft.set hb_ hz mz (by decide) (fun e => absurd e (by decide))), both tj tz, tz.blk hej hTE⟩
    rintro _ wG frG ⟨sG, tG, heG⟩
    refine seq_assign ?_
    refine den_loop (σ := Nat) (fun j => [(1, .pointer (some ⟨w.heap.size, 0, none⟩)), (3, .pointer (some ⟨D, 0, none⟩)), (4, .pointer (some ⟨Y, 0, none⟩)), (7, zi (i : Int)), (10, zi (k : Int)), (11, .pointer (some ⟨E, 0, none⟩)), (13, zi (j : Int))]) (fun m_j j wlj => m_j + j = u.stack.length ∧ Soft w5 wlj ∧ Mod T w5 wlj ∧ wlj.heap[E]? = some (.cells #[zi u.at_, .slice L2 u.locals.length l2, .slice T2 u.stack.length t2] 49 (0, 0))) u.stack.length 0 ⟨rfl, rfl, rfl, rfl, rfl, rfl, rfl, trivial⟩ ⟨rfl, sG, tG, heG⟩ ?_
    rintro m_j j wlj frlj ⟨hfuel_j, sj, tj, hej⟩
    refine seq_cut (σ := Unit) (fun _ => [(1, .pointer (some ⟨w.heap.size, 0, none⟩)), (3, .pointer (some ⟨D, 0, none⟩)), (4, .pointer (some ⟨Y, 0, none⟩)), (7, zi (i : Int)), (10, zi (k : Int)), (11, .pointer (some ⟨E, 0, none⟩)), (13, zi (j : Int))]) (fun _ w' => w' = wlj ∧ j < u.stack.length) ?_ ?_
    rotate_left
    · intro hKc_K hKc
      refine Exists.intro T2 (Exists.intro u.stack.length (Exists.intro t2 (And.intro (cellB hej rfl) ?_)))
      refine if_p (fun hlt => ?_) (fun hge => ?_)
      · replace hlt : (j : Int) < (u.stack.length : Int) := hlt
        exact hKc () _ _ ⟨rfl, rfl, rfl, rfl, rfl, rfl, rfl, trivial⟩ ⟨rfl, by omega⟩
      · exact hKbk () _ _ ⟨rfl, rfl, rfl, rfl, rfl, trivial⟩ ⟨sj, tj⟩
    rintro _ wqj frqj ⟨hwq, hj⟩
    obtain rfl := hwq.symm
    have hltj : (j : Int) < (u.stack.length : Int) := by omega
    obtain ⟨m_j, rfl⟩ : ∃ m', m_j = m' + 1 := ⟨m_j - 1, by omega⟩
    have incj : Value.int .i64 (IntKind.i64.wrap ((j : Int) + 1)) = .int .i64 ((j + 1 : Nat) : Int) := incN hj (by omega)
    refine seq_cut (σ := Unit) (fun _ => [(1, .pointer (some ⟨w.heap.size, 0, none⟩)), (3, .pointer (some ⟨D, 0, none⟩)), (4, .pointer (some ⟨Y, 0, none⟩)), (7, zi (i : Int)), (10, zi (k : Int)), (11, .pointer (some ⟨E, 0, none⟩)), (13, zi (j : Int))]) (fun _ w' => Soft w5 w' ∧ Mod T w5 w' ∧ w'.heap[E]? = some (.cells #[zi u.at_, .slice L2 u.locals.length l2, .slice T2 u.stack.length t2] 49 (0, 0))) ?_ ?_
    · rintro _ wz frz hz
      exact ⟨m_j, j + 1, by omega, ⟨rfl, rfl, rfl, rfl, rfl, rfl, incj, trivial⟩, by omega, hz⟩
    intro hKbj_K hKbj
    refine block_ ?_
    obtain ⟨g_, arr_, rfl, hb_, hj_, hT_⟩ := (lS.wrt _ _ rfl).at_ sj hj (show 0 < 2 by decide)
    refine Exists.intro (some ⟨g_, 0, none⟩) (Exists.intro u.stack.length (Exists.intro t2 (And.intro (cellB hej rfl) ?_)))
    refine And.intro (by omega) (And.intro hltj ?_)
    refine And.intro (exA (adr2 g_ j 2 0) hb_ hj_) (And.intro (fzA (adr2 g_ j 2 0) hb_) (force_ ?_))
    refine stA (adr2 g_ j 2 0) hb_ hj_ ?_
    intro wz hz mz sz
    have tz : Mod T wlj wz := mz.mono fun b _ e => by rw [e]; exact hT_
    exact hKbj () _ _ ⟨rfl, rfl, rfl, rfl, rfl, rfl, rfl, trivial⟩ ⟨sj.trans (Soft.set hb_ hz mz (by decide) (fun e => absurd e (by decide))), both tj tz, tz.blk hej hTE⟩
  rintro _ w8 fr8 ⟨s8, t8⟩
  have hY8 := t8.blk hY hTY
  have hM8 := t8.blk hM5 (fun e => by have := (hTw _ e).1; omega)
  refine loadN_row (vs := [.slice P3 m.pool.length p3, strV m.name, strV m.super, .slice F3 m.fields.length f3, .slice M3 m.methods.length m3]) (rowB hY8) rfl ?_
  refine loadN_row (vs := [.slice A1 m.pool.length a1, strV m.name, strV m.super, .slice F1 m.fields.length f1, .slice M1 m.methods.length m1]) (rowB hM8) rfl ?_
  have n8 : New w w8 := Mod.trans n5 t8 fun b hb e => by have := (hTw _ e).1; omega
  refine call_ (SameClass_ok [.slice P3 m.pool.length p3, strV m.name, strV m.super, .slice F3 m.fields.length f3, .slice M3 m.methods.length m3] [.slice A1 m.pool.length a1, strV m.name, strV m.super, .slice F1 m.fields.length f1, .slice M1 m.methods.length m1] m T S w8 (clsOk.mod hy5 t8) (hxw n8) hf.1) ?_
  rintro e w9 ⟨rfl, n9⟩
  refine ⟨_, rfl, ?_⟩
  exact ⟨rfl, n8.trans n9⟩

end Go.Proofs.YtdcaafldnbcdkaaDoor.Class
