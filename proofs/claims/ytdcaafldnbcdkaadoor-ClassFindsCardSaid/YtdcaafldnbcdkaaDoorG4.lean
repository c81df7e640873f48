/- The texts KFinds behind one another, merged by mrg.py; each says in its own place what it proves. -/
import Derived.Test.YtdcaafldnbcdkaaDoorG3

/-! ### KFinds -/
namespace Go.Proofs.YtdcaafldnbcdkaaDoor.Class
open Go Go.Proofs.YtdcaafldnbcdkaaDoor Go.Proofs.YtdcaafldnbcdkaaDoor.Eng Go.Proofs Go.Proofs.YtdcaafldnbcdkaaDoor.Word Go.Proofs.YtdcaafldnbcdkaaDoor.Fmt
open Go.Proofs.YtdcaafldnbcdkaaDoor.Pool (Ent at_ poolF strV entC entV EntOk Pl OkPool both own_low tagAt)
set_option maxRecDepth 10000

def isM (a b : List UInt8) (y : Mth) : Bool := decide (y.name = a) && decide (y.typ = b)
def at_M (a b : List UInt8) (l : List Mth) : Nat := l.findIdx (isM a b)
theorem atM_step {a b : List UInt8} {l : List Mth} {i : Nat} (hi : i < l.length) (h : i ≤ at_M a b l) (hp : isM a b l[i] = false) : i + 1 ≤ at_M a b l := by
  rcases Nat.lt_or_ge i (at_M a b l) with h1 | h1
  · exact h1
  · have e : at_M a b l = i := by omega
    have := List.findIdx_getElem (xs := l) (p := isM a b) (w := by have : at_M a b l < l.length := by omega
                                                                   exact this)
    have e2 : l.findIdx (isM a b) = i := e
    simp only [e2] at this
    rw [hp] at this
    cases this
theorem atM_here {a b : List UInt8} {l : List Mth} {i : Nat} (hi : i < l.length) (h : i ≤ at_M a b l) (hp : isM a b l[i] = true) : at_M a b l = i := by
  have h1 : at_M a b l ≤ i := by
    unfold at_M
    refine Nat.le_of_not_lt fun hc => ?_
    have := List.not_of_lt_findIdx hc
    rw [hp] at this
    cases this
  omega
theorem find1_ok (a b : List UInt8) (P Q : Addr) (cs : List Value) (y : Mth) (S : Nat → Prop) (w : World) (hx : mthR w S cs y) (hP : w.cell? P = some (strV a)) (hQ : w.cell? Q = some (strV b)) :
    Calls Tryd.prog 21 #[.agg cs.toArray, .pointer (some P), .pointer (some Q)] w fun e w' => e = .returned (.bool (isM a b y)) ∧ New w w' := by
  obtain ⟨_, _, _, rfl, hy1, hy2, hy3⟩ := hx
  obtain ⟨Ab, cb, rfl, _⟩ := hy1.get u8Ok (by decide)
  obtain ⟨Ah, ch, rfl, _⟩ := hy2.get hndOk (by decide)
  obtain ⟨Am2, cm2, rfl, _⟩ := hy3.get mpOk (by decide)
  refine enter ok Tryd.func21 rfl rfl rfl ?_
  refine seq_cut (σ := Unit) (fun _ => [(1, .pointer (some P)), (2, .pointer (some Q)), (3, .pointer (some ⟨w.heap.size, 0, none⟩))]) (fun _ w' => New w w' ∧ w'.heap[w.heap.size]? = some (.cells #[zi y.acc, strV y.name, strV y.typ, zi y.code.stack, zi y.code.locals, .slice Ab y.code.bytes.length cb, .slice Ah y.code.hands.length ch, .slice Am2 y.code.maps.length cm2] 36 (0, 0))) ?_ ?_
  rotate_left
  · intro K hK
    exact hK () _ _ ⟨rfl, rfl, rfl, trivial⟩ ⟨New.alloc w _, heap_alloc_new w (.cells #[zi y.acc, strV y.name, strV y.typ, zi y.code.stack, zi y.code.locals, .slice Ab y.code.bytes.length cb, .slice Ah y.code.hands.length ch, .slice Am2 y.code.maps.length cm2] 36)⟩
  rintro _ w1 fr1 ⟨n1, hX⟩
  unfold isM
  refine Exists.intro (⟨y.name.toArray⟩ : ByteArray) (And.intro (cellB hX rfl) ?_)
  refine Exists.intro (⟨a.toArray⟩ : ByteArray) (And.intro (n1.cell hP) ?_)
  refine if_ (fun h1 => ?_) (fun h1 => ?_)
  · rw [Base.same_iff] at h1
    refine Exists.intro (⟨y.typ.toArray⟩ : ByteArray) (And.intro (cellB hX rfl) ?_)
    refine Exists.intro (⟨b.toArray⟩ : ByteArray) (And.intro (n1.cell hQ) ?_)
    rw [h1, Bool.true_and, ← Base.same_iff]
    exact ⟨rfl, n1⟩
  · rw [Base.same_iff] at h1
    rw [h1, Bool.false_and]
    exact ⟨rfl, n1⟩
theorem indexM_ok (a b : List UInt8) (P Q : Addr) (v : Value) (l : List Mth) (S : Nat → Prop) (w : World) (hl : LRep mthR w S v l) (hP : w.cell? P = some (strV a)) (hQ : w.cell? Q = some (strV b)) :
    Calls Tryd.prog 20 #[v, .func (.func 21) #[] #[.pointer (some P), .pointer (some Q)]] w fun e w' => e = .returned (zi (if at_M a b l < l.length then (at_M a b l : Int) else -1)) ∧ New w w' := by
  obtain ⟨Am, cm, rfl, hnm, _⟩ := hl.get mthOk (by decide)
  refine enter ok Tryd.func20 rfl rfl rfl ?_
  refine den_loop (σ := Nat) (fun i => [(0, .slice Am l.length cm), (1, .func (.func 21) #[] #[.pointer (some P), .pointer (some Q)]), (4, zi 0), (7, zi (l.length : Int)), (8, zi (i : Int))])
    (fun m i wl => m + i = l.length ∧ i ≤ at_M a b l ∧ New w wl) l.length 0 ⟨rfl, rfl, rfl, rfl, rfl, trivial⟩ ⟨rfl, Nat.zero_le _, New.refl w⟩ ?_
  rintro m i wl fr0 ⟨hfuel, hno, nl⟩
  refine if_p (fun hlt => ?_) (fun hge => ?_)
  · replace hlt : (i : Int) < (l.length : Int) := hlt
    have hi : i < l.length := by omega
    obtain ⟨m, rfl⟩ : ∃ m', m = m' + 1 := ⟨m - 1, by omega⟩
    have inc : Value.int .i64 (IntKind.i64.wrap ((i : Int) + 1)) = .int .i64 ((i + 1 : Nat) : Int) := by
      rw [wrap_i64 (by omega) (by omega)]
      rfl
    obtain ⟨_, _, he, _, gx⟩ := (LRep.mod mthOk (by decide) hl (nl.mod.mono fun _ _ e => False.elim e)).get mthOk (by decide)
    cases he
    obtain ⟨aa, cs, ea, hx, hc⟩ := gx i hi
    obtain ⟨y, hy⟩ : ∃ y, y = l[i] := ⟨_, rfl⟩
    rw [← hy] at hx
    have hx0 := hx
    obtain ⟨_, _, _, rfl, hy1, hy2, hy3⟩ := hx
    obtain ⟨Ab, cb, rfl, _⟩ := hy1.get u8Ok (by decide)
    obtain ⟨Ah, ch, rfl, _⟩ := hy2.get hndOk (by decide)
    obtain ⟨Am2, cm2, rfl, _⟩ := hy3.get mpOk (by decide)
    refine And.intro (by omega) (And.intro hlt ?_)
    refine some_at ea ?_
    refine loadN_row (vs := [zi y.acc, strV y.name, strV y.typ, zi y.code.stack, zi y.code.locals, .slice Ab y.code.bytes.length cb, .slice Ah y.code.hands.length ch, .slice Am2 y.code.maps.length cm2]) (by rw [Int.toNat_natCast]; exact hc) rfl ?_
    refine call_ (find1_ok a b P Q _ y S wl hx0 (nl.cell hP) (nl.cell hQ)) ?_
    rintro e w' ⟨rfl, n1⟩
    refine ⟨_, rfl, ?_⟩
    refine if_ (fun hb => ?_) (fun hb => ?_)
    · have e1 := atM_here hi hno (by rw [← hy]; exact hb)
      rw [e1, if_pos hi]
      exact ⟨rfl, nl.trans n1⟩
    · exact ⟨m, i + 1, by omega, ⟨rfl, rfl, rfl, rfl, inc, trivial⟩, by omega, atM_step hi hno (by rw [← hy]; exact hb), nl.trans n1⟩
  · replace hge : ¬ (i : Int) < (l.length : Int) := hge
    rw [if_neg (by omega)]
    exact ⟨rfl, nl⟩
theorem Find_ok (cs0 : List Value) (c : Cls) (S : Nat → Prop) (a b : List UInt8) (w : World) (hx : clsR w S cs0 c) :
    Calls Tryd.prog 8 #[.agg cs0.toArray, strV a, strV b] w fun e w' => e = .returned (.tuple #[zi (if at_M a b c.methods < c.methods.length then (at_M a b c.methods : Int) else 0), zi (if at_M a b c.methods < c.methods.length then 0 else 5)]) ∧ New w w' := by
  have hx0 := hx
  obtain ⟨_, _, _, rfl, lp, lf, lm⟩ := hx
  obtain ⟨A, q, rfl, _⟩ := lp.get entOk (by decide)
  obtain ⟨Af, cf, rfl, _⟩ := lf.get fldOk (by decide)
  have lm0 := lm
  obtain ⟨Am, cm, rfl, hnm, _⟩ := lm.get mthOk (by decide)
  refine enter ok Tryd.func8 rfl rfl rfl ?_
  refine seq_cut (σ := Nat × Nat × Nat) (fun s => [(3, .pointer (some ⟨s.1, 0, none⟩)), (4, .pointer (some ⟨s.2.1, 0, none⟩)), (5, .pointer (some ⟨s.2.2, 0, none⟩))]) (fun s w' => New w w' ∧ w'.heap[s.1]? = some (.cells #[.slice A c.pool.length q, strV c.name, strV c.super, .slice Af c.fields.length cf, .slice Am c.methods.length cm] 26 (0, 0)) ∧ w'.heap[s.2.1]? = some (.cells #[strV a] 9 (0, 0)) ∧ w'.heap[s.2.2]? = some (.cells #[strV b] 9 (0, 0))) ?_ ?_
  rotate_left
  · intro K hK
    have n1 := New.alloc w (.cells #[.slice A c.pool.length q, strV c.name, strV c.super, .slice Af c.fields.length cf, .slice Am c.methods.length cm] 26)
    have h1 := heap_alloc_new w (.cells #[.slice A c.pool.length q, strV c.name, strV c.super, .slice Af c.fields.length cf, .slice Am c.methods.length cm] 26)
    have n2 := New.alloc (w.alloc (.cells #[.slice A c.pool.length q, strV c.name, strV c.super, .slice Af c.fields.length cf, .slice Am c.methods.length cm] 26)) (.cells #[strV a] 9)
    have h2 := heap_alloc_new (w.alloc (.cells #[.slice A c.pool.length q, strV c.name, strV c.super, .slice Af c.fields.length cf, .slice Am c.methods.length cm] 26)) (.cells #[strV a] 9)
    have n3 := New.alloc ((w.alloc (.cells #[.slice A c.pool.length q, strV c.name, strV c.super, .slice Af c.fields.length cf, .slice Am c.methods.length cm] 26)).alloc (.cells #[strV a] 9)) (.cells #[strV b] 9)
    have h3 := heap_alloc_new ((w.alloc (.cells #[.slice A c.pool.length q, strV c.name, strV c.super, .slice Af c.fields.length cf, .slice Am c.methods.length cm] 26)).alloc (.cells #[strV a] 9)) (.cells #[strV b] 9)
    exact hK (w.heap.size, (w.alloc (.cells #[.slice A c.pool.length q, strV c.name, strV c.super, .slice Af c.fields.length cf, .slice Am c.methods.length cm] 26)).heap.size, ((w.alloc (.cells #[.slice A c.pool.length q, strV c.name, strV c.super, .slice Af c.fields.length cf, .slice Am c.methods.length cm] 26)).alloc (.cells #[strV a] 9)).heap.size) _ _ ⟨rfl, rfl, rfl, trivial⟩ ⟨(n1.trans n2).trans n3, n3.blk (n2.blk h1), n3.blk h2, h3⟩
  rintro ⟨X, Y, Z⟩ w1 fr1 ⟨n1, hX, hY, hZ⟩
  dsimp only at hX hY hZ
  obtain ⟨k, hk⟩ : ∃ k : Int, k = if at_M a b c.methods < c.methods.length then (at_M a b c.methods : Int) else -1 := ⟨_, rfl⟩
  refine seq_cut (σ := Unit) (fun _ => [(8, zi k)]) (fun _ w' => New w w') ?_ ?_
  rotate_left
  · intro K hK
    refine Exists.intro Am (Exists.intro c.methods.length (Exists.intro cm (And.intro (cellB hX rfl) ?_)))
    refine call_ (indexM_ok a b ⟨Y, 0, none⟩ ⟨Z, 0, none⟩ _ c.methods S w1 (LRep.mod mthOk (by decide) lm0 (n1.mod.mono fun _ _ e => False.elim e)) (cell0 hY) (cell0 hZ)) ?_
    rintro e w2 ⟨rfl, n2⟩
    refine ⟨_, rfl, ?_⟩
    rw [← hk]
    exact hK () _ _ ⟨rfl, trivial⟩ (n1.trans n2)
  rintro _ w2 fr2 n2
  by_cases hf : at_M a b c.methods < c.methods.length
  · rw [if_pos hf] at hk
    rw [if_pos hf, if_pos hf, ← hk]
    refine if_p (fun h => absurd (show k < 0 from h) (by omega)) (fun _ => ?_)
    exact ⟨rfl, n2⟩
  · rw [if_neg hf] at hk
    rw [if_neg hf, if_neg hf]
    refine if_p (fun _ => ?_) (fun h => absurd (show k < 0 by omega) h)
    exact ⟨rfl, n2⟩
theorem ClassFinds_ok (cs0 : List Value) (c : Cls) (S : Nat → Prop) (a b : List UInt8) (w : World) (hx : clsR w S cs0 c) (hk : Kt w) :
    Calls Tryd.prog 3 #[.agg cs0.toArray, strV a, strV b] w fun e w' => e = .returned (.bool true) ∧ New w w' := by
  have hG := hk.lt
  have hx0 := hx
  obtain ⟨_, _, _, rfl, lp, lf, lm⟩ := hx
  obtain ⟨A, q, rfl, _⟩ := lp.get entOk (by decide)
  obtain ⟨Af, cf, rfl, _⟩ := lf.get fldOk (by decide)
  have lm0 := lm
  obtain ⟨Am, cm, rfl, hnm, _⟩ := lm.get mthOk (by decide)
  refine enter ok Tryd.func3 rfl rfl rfl ?_
  refine seq_cut (σ := Unit) (fun _ => [(1, strV a), (2, strV b), (3, .pointer (some ⟨w.heap.size, 0, none⟩))]) (fun _ w' => New w w' ∧ w'.heap[w.heap.size]? = some (.cells #[.slice A c.pool.length q, strV c.name, strV c.super, .slice Af c.fields.length cf, .slice Am c.methods.length cm] 26 (0, 0))) ?_ ?_
  rotate_left
  · intro K hK
    exact hK () _ _ ⟨rfl, rfl, rfl, trivial⟩ ⟨New.alloc w _, heap_alloc_new w (.cells #[.slice A c.pool.length q, strV c.name, strV c.super, .slice Af c.fields.length cf, .slice Am c.methods.length cm] 26)⟩
  rintro _ w1 fr1 ⟨n1, hX1⟩
  obtain ⟨k, hkk⟩ : ∃ k : Int, k = if at_M a b c.methods < c.methods.length then (at_M a b c.methods : Int) else 0 := ⟨_, rfl⟩
  obtain ⟨er, her⟩ : ∃ k : Int, k = if at_M a b c.methods < c.methods.length then 0 else 5 := ⟨_, rfl⟩
  refine seq_cut (σ := Unit) (fun _ => [(1, strV a), (2, strV b), (3, .pointer (some ⟨w.heap.size, 0, none⟩)), (7, zi k), (8, zi er)]) (fun _ w' => New w w' ∧ w'.heap[w.heap.size]? = some (.cells #[.slice A c.pool.length q, strV c.name, strV c.super, .slice Af c.fields.length cf, .slice Am c.methods.length cm] 26 (0, 0))) ?_ ?_
  rotate_left
  · intro K hK
    refine loadN_row (vs := [.slice A c.pool.length q, strV c.name, strV c.super, .slice Af c.fields.length cf, .slice Am c.methods.length cm]) (rowB hX1) rfl ?_
    refine call_ (Find_ok _ c S a b w1 (clsOk.mod hx0 (n1.mod.mono fun _ _ e => False.elim e))) ?_
    rintro e w2 ⟨rfl, n2⟩
    refine ⟨_, rfl, ?_⟩
    rw [← hkk, ← her]
    exact hK () _ _ ⟨rfl, rfl, rfl, rfl, rfl, trivial⟩ ⟨n1.trans n2, n2.blk hX1⟩
  rintro _ w2 fr2 ⟨n2, hX2⟩
  have wk : ∀ {w' : World}, New w w' → ∀ K' : Value → World → Prop, (∀ w2, New w w2 → K' (.bool true) w2) → callQ Tryd.prog 9 [] w' K' := fun n K' hK' => by
    have hs := n.size
    refine call_ (works_ok _ (fun k h0 h5 => n.cell (hk k h0 h5)) (by omega)) ?_
    rintro e w3 ⟨rfl, n3⟩
    exact ⟨_, rfl, hK' w3 (n.trans n3)⟩
  refine seq_cut (σ := Unit) (fun _ => [(7, zi k), (8, zi er)]) (fun _ w' => New w w' ∧ k = 0 ∧ er = 5) ?_ ?_
  rotate_left
  · intro K hK
    refine seq_assign ?_
    refine den_loop (σ := Nat) (fun i => [(1, strV a), (2, strV b), (3, .pointer (some ⟨w.heap.size, 0, none⟩)), (7, zi k), (8, zi er), (9, zi (i : Int))])
      (fun m i wl => m + i = c.methods.length ∧ i ≤ at_M a b c.methods ∧ New w wl ∧ wl.heap[w.heap.size]? = some (.cells #[.slice A c.pool.length q, strV c.name, strV c.super, .slice Af c.fields.length cf, .slice Am c.methods.length cm] 26 (0, 0))) c.methods.length 0 ⟨rfl, rfl, rfl, rfl, rfl, rfl, trivial⟩ ⟨rfl, Nat.zero_le _, n2, hX2⟩ ?_
    rintro m i wl frl ⟨hfuel, hno, nl, hXl⟩
    refine seq_cut (σ := Unit) (fun _ => [(1, strV a), (2, strV b), (3, .pointer (some ⟨w.heap.size, 0, none⟩)), (7, zi k), (8, zi er), (9, zi (i : Int))]) (fun _ w' => w' = wl ∧ i < c.methods.length) ?_ ?_
    rotate_left
    · intro K2 hK2
      refine Exists.intro Am (Exists.intro c.methods.length (Exists.intro cm (And.intro (cellB hXl rfl) ?_)))
      refine if_p (fun hlt => ?_) (fun hge => ?_)
      · replace hlt : (i : Int) < (c.methods.length : Int) := hlt
        exact hK2 () _ _ ⟨rfl, rfl, rfl, rfl, rfl, rfl, trivial⟩ ⟨rfl, by omega⟩
      · replace hge : ¬ (i : Int) < (c.methods.length : Int) := hge
        rw [if_neg (by omega)] at hkk her
        exact hK () _ _ ⟨rfl, rfl, trivial⟩ ⟨nl, hkk, her⟩
    rintro _ wy fry ⟨hwy, hi⟩
    obtain rfl := hwy.symm
    have hlt : (i : Int) < (c.methods.length : Int) := by omega
    obtain ⟨m, rfl⟩ : ∃ m', m = m' + 1 := ⟨m - 1, by omega⟩
    have inc : Value.int .i64 (IntKind.i64.wrap ((i : Int) + 1)) = .int .i64 ((i + 1 : Nat) : Int) := by
      rw [wrap_i64 (by omega) (by omega)]
      rfl
    obtain ⟨_, _, he, _, gx⟩ := (LRep.mod mthOk (by decide) lm0 (nl.mod.mono fun _ _ e => False.elim e)).get mthOk (by decide)
    cases he
    obtain ⟨aa, cs, ea, hx, hc⟩ := gx i hi
    obtain ⟨y, hy⟩ : ∃ y, y = c.methods[i] := ⟨_, rfl⟩
    rw [← hy] at hx
    obtain ⟨_, _, _, rfl, hy1, hy2, hy3⟩ := hx
    obtain ⟨Ab, cb, rfl, _⟩ := hy1.get u8Ok (by decide)
    obtain ⟨Ah, ch, rfl, _⟩ := hy2.get hndOk (by decide)
    obtain ⟨Am2, cm2, rfl, _⟩ := hy3.get mpOk (by decide)
    refine seq_cut (σ := Unit) (fun _ => [(1, strV a), (2, strV b), (3, .pointer (some ⟨w.heap.size, 0, none⟩)), (7, zi k), (8, zi er), (9, zi (i : Int))]) (fun _ w' => w' = wl ∧ isM a b y = false) ?_ ?_
    · rintro _ wz frz ⟨hwz, hno2⟩
      obtain rfl := hwz.symm
      exact ⟨m, i + 1, by omega, ⟨rfl, rfl, rfl, rfl, rfl, inc, trivial⟩, by omega, atM_step hi hno (by rw [← hy]; exact hno2), nl, hXl⟩
    intro K3 hK3
    refine block_ ?_
    have found : isM a b y = true → k = (i : Int) ∧ er = 0 := fun h => by
      have e1 := atM_here hi hno (by rw [← hy]; exact h)
      rw [e1, if_pos hi] at hkk
      rw [e1, if_pos hi] at her
      exact ⟨hkk, her⟩
    have cy : ∀ j u, [zi y.acc, strV y.name, strV y.typ, zi y.code.stack, zi y.code.locals, .slice Ab y.code.bytes.length cb, .slice Ah y.code.hands.length ch, .slice Am2 y.code.maps.length cm2][j]? = some u → wl.cell? ((aa.add ((i : Int).toNat * 8)).add j) = some u := by rw [Int.toNat_natCast]; exact hc
    refine seq_cut (σ := Bool) (fun r => [(1, strV a), (2, strV b), (3, .pointer (some ⟨w.heap.size, 0, none⟩)), (7, zi k), (8, zi er), (9, zi (i : Int)), (41, .bool r)]) (fun r w' => w' = wl ∧ r = isM a b y) ?_ ?_
    rotate_left
    · intro K4 hK4
      refine Exists.intro Am (Exists.intro c.methods.length (Exists.intro cm (And.intro (cellB hXl rfl) ?_)))
      refine And.intro (by omega) (And.intro hlt ?_)
      refine some_at ea ?_
      refine Exists.intro (⟨y.name.toArray⟩ : ByteArray) (And.intro (cy 1 _ rfl) ?_)
      refine if_ (fun h1 => ?_) (fun h1 => ?_)
      · rw [Base.same_iff] at h1
        refine Exists.intro Am (Exists.intro c.methods.length (Exists.intro cm (And.intro (cellB hXl rfl) ?_)))
        refine And.intro (by omega) (And.intro hlt ?_)
        refine some_at ea ?_
        refine Exists.intro (⟨y.typ.toArray⟩ : ByteArray) (And.intro (cy 2 _ rfl) ?_)
        refine hK4 _ _ _ ⟨rfl, rfl, rfl, rfl, rfl, rfl, rfl, trivial⟩ ⟨rfl, ?_⟩
        unfold isM
        rw [h1, Bool.true_and, ← Base.same_iff]
      · rw [Base.same_iff] at h1
        refine hK4 false _ _ ⟨rfl, rfl, rfl, rfl, rfl, rfl, rfl, trivial⟩ ⟨rfl, ?_⟩
        unfold isM
        rw [h1]
        rfl
    rintro r wz frz ⟨hwz, hr⟩
    obtain rfl := hwz.symm
    refine if_ (fun hb => ?_) (fun hb => ?_)
    · obtain ⟨f1, f2⟩ := found (by rw [← hr]; exact hb)
      refine if_p (fun _ => ?_) (fun h => absurd f1 h)
      refine if_p (fun _ => ?_) (fun h => absurd f2 h)
      exact wk nl _ fun w4 n4 => ⟨rfl, n4⟩
    · exact hK3 () _ _ ⟨rfl, rfl, rfl, rfl, rfl, rfl, trivial⟩ ⟨rfl, by rw [← hr]; exact hb⟩
  rintro _ w3 fr3 ⟨n3, h0, h5⟩
  refine if_p (fun _ => ?_) (fun h => absurd h0 h)
  refine if_p (fun _ => ?_) (fun h => absurd h5 h)
  exact wk n3 _ fun w4 n4 => ⟨rfl, n4⟩

end Go.Proofs.YtdcaafldnbcdkaaDoor.Class
