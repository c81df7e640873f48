/- larchlaw21.light, walked: is a machine small enough? Printed by genlight.py. -/
import Derived.Test.YteanhakkceancaaIWMath
import Derived.Test.YteanhakkceancaaISame
namespace Go.Proofs.Yteanhakkceancaa.Image
open Go Go.Proofs.Yteanhakkceancaa Go.Proofs.Yteanhakkceancaa.Eng Go.Proofs Go.Proofs.Yteanhakkceancaa.Word Go.Proofs.Yteanhakkceancaa.Fmt
set_option maxRecDepth 10000

def wObj (o : Obj) : Nat := o.words.length
def wCall (c : Call) : Nat := 4 + c.locals.length + c.stack.length
def wThr (t : Thr) : Nat := 1 + csum wCall t.calls
def weigh (m : Mach) : Nat := m.ins.length + m.outs.length + m.statics.length + m.mons.length + m.objs.length + csum wObj m.objs + csum wThr m.thrs
theorem csum_bound {α : Type} (f g : α → Nat) (k : Nat) (h : ∀ x, f x ≤ k * g x) : ∀ l : List α, csum f l ≤ k * csum g l
  | [] => by simp [csum]
  | x :: l => by
    have h1 := csum_bound f g k h l
    have h2 := h x
    simp only [csum, List.map_cons, List.sum_cons] at h1 ⊢
    rw [Nat.mul_add]
    omega
theorem csum_const {α : Type} (k : Nat) : ∀ l : List α, csum (fun _ => k) l = k * l.length
  | [] => by simp [csum]
  | x :: l => by
    have h1 := csum_const k l
    simp only [csum, List.map_cons, List.sum_cons, List.length_cons] at h1 ⊢
    rw [h1, Nat.mul_add]
    omega
theorem csum_add {α : Type} (f g : α → Nat) : ∀ l : List α, csum (fun x => f x + g x) l = csum f l + csum g l
  | [] => by simp [csum]
  | x :: l => by
    have h1 := csum_add f g l
    simp only [csum, List.map_cons, List.sum_cons] at h1 ⊢
    omega
theorem cost_weigh (m : Mach) : cMach m ≤ 56 + 300 * weigh m := by
  have hv : ∀ l : List Val, csum cVal l = 9 * l.length := fun l => csum_const 9 l
  have h1 : csum cInt m.ins = 8 * m.ins.length := csum_const 8 _
  have h2 : csum cInt m.outs = 8 * m.outs.length := csum_const 8 _
  have h3 := hv m.statics
  have h4 : csum cMon m.mons = 24 * m.mons.length := csum_const 24 _
  have h5 : csum cObj m.objs ≤ 261 * m.objs.length + 9 * csum wObj m.objs := by
    have e : csum cObj m.objs = csum (fun _ => 261) m.objs + csum (fun o => csum cVal o.words) m.objs := csum_add (fun _ => 261) _ m.objs
    have e2 := csum_bound (fun o : Obj => csum cVal o.words) wObj 9 (fun o => by rw [hv]; exact Nat.le_refl _) m.objs
    rw [csum_const] at e
    omega
  have h6 : csum cThr m.thrs ≤ 28 * csum wThr m.thrs := by
    refine csum_bound cThr wThr 28 (fun t => ?_) m.thrs
    have := csum_bound cCall wCall 10 (fun c => by
      show 40 + csum cVal c.locals + csum cVal c.stack ≤ 10 * (4 + c.locals.length + c.stack.length)
      rw [hv, hv]
      omega) t.calls
    show 28 + csum cCall t.calls ≤ 28 * (1 + csum wCall t.calls)
    omega
  show 56 + csum cInt m.ins + csum cInt m.outs + csum cVal m.statics + csum cObj m.objs + csum cThr m.thrs + csum cMon m.mons ≤ 56 + 300 * (m.ins.length + m.outs.length + m.statics.length + m.mons.length + m.objs.length + csum wObj m.objs + csum wThr m.thrs)
  omega
/-- How far one has counted. -/
def Far (q : Int) (n : Nat) : Prop := 0 ≤ q ∧ q ≤ 140737488355328 ∧ (5000 ≤ q ∨ (n : Int) ≤ q)
theorem Far.add {q : Int} {n k : Nat} (h : Far q n) (hq : q < 5000) (hk : k ≤ 35184372088840) : Far (q + k) (n + k) := by
  obtain ⟨a, b, c⟩ := h
  refine ⟨by omega, by omega, ?_⟩
  rcases c with c | c
  · omega
  · exact .inr (by omega)
theorem Far.over {q : Int} {n : Nat} (h : Far q n) (hq : 5000 ≤ q) (k : Nat) : Far q k := ⟨h.1, h.2.1, .inl hq⟩
theorem light_ok (cs0 : List Value) (m : Mach) (S : Nat → Prop) (w : World) (hx : machR w S cs0 m) :
    Calls Try.prog 7 #[.agg cs0.toArray] w fun e w' => ∃ b, e = .returned (.bool b) ∧ (b = true → cMach m ≤ 1000000) ∧ New w w' := by
  obtain ⟨_, _, _, _, _, _, rfl, LO, LT, LH, LM, LI, LU⟩ := hx
  obtain ⟨O, o, rfl, bO, gO⟩ := LO.get objOk (by decide)
  obtain ⟨T', t, rfl, bT, _⟩ := LT.get valOk (by decide)
  obtain ⟨H, h, rfl, bH, gH⟩ := LH.get thrOk (by decide)
  obtain ⟨M, mm, rfl, bM, _⟩ := LM.get monOk (by decide)
  obtain ⟨I, ii, rfl, bI, _⟩ := LI.get intOk (by decide)
  obtain ⟨U, u, rfl, bU, _⟩ := LU.get intOk (by decide)
  refine enter ok Try.func7 rfl rfl rfl ?_
  refine seq_cut (σ := Unit) (fun _ => [(1, .pointer (some ⟨w.heap.size, 0, none⟩))]) (fun _ w' => New w w' ∧ w'.heap[w.heap.size]? = some (.cells #[zi m.status, .slice O m.objs.length o, .slice T' m.statics.length t, .slice H m.thrs.length h, .slice M m.mons.length mm, zi m.read, .slice I m.ins.length ii, .slice U m.outs.length u, zi m.gone, zi m.steps] 28 (0, 0))) ?_ ?_
  rotate_left
  · intro K hK
    exact hK () _ _ ⟨rfl, trivial⟩ ⟨New.alloc w _, heap_alloc_new w (.cells #[zi m.status, .slice O m.objs.length o, .slice T' m.statics.length t, .slice H m.thrs.length h, .slice M m.mons.length mm, zi m.read, .slice I m.ins.length ii, .slice U m.outs.length u, zi m.gone, zi m.steps] 28)⟩
  rintro _ w1 fr1 ⟨n1, hM⟩
  obtain ⟨X, hX⟩ : ∃ X, X = w.heap.size := ⟨_, rfl⟩
  rw [← hX] at hM ⊢
  refine seq_cut (σ := Int) (fun q => [(1, .pointer (some ⟨X, 0, none⟩)), (3, zi q)]) (fun q w' => w' = w1 ∧ Far q (m.ins.length + m.outs.length + m.statics.length + m.mons.length + m.objs.length)) ?_ ?_
  rotate_left
  · intro K hK
    refine Exists.intro I (Exists.intro m.ins.length (Exists.intro ii (And.intro (cellB hM rfl) ?_)))
    refine Exists.intro U (Exists.intro m.outs.length (Exists.intro u (And.intro (cellB hM rfl) ?_)))
    refine Exists.intro T' (Exists.intro m.statics.length (Exists.intro t (And.intro (cellB hM rfl) ?_)))
    refine Exists.intro M (Exists.intro m.mons.length (Exists.intro mm (And.intro (cellB hM rfl) ?_)))
    refine Exists.intro O (Exists.intro m.objs.length (Exists.intro o (And.intro (cellB hM rfl) ?_)))
    refine hK ((m.ins.length + m.outs.length + m.statics.length + m.mons.length + m.objs.length : Nat) : Int) _ _ ⟨rfl, ?_, trivial⟩ ⟨rfl, by omega, by omega, .inr (Int.le_refl _)⟩
    show zi (IntKind.i64.wrap (IntKind.i64.wrap (IntKind.i64.wrap (IntKind.i64.wrap ((m.ins.length : Int) + m.outs.length) + m.statics.length) + m.mons.length) + m.objs.length)) = _
    rw [wrap_i64 (n := (m.ins.length : Int) + m.outs.length) (by omega) (by omega), wrap_i64 (n := (m.ins.length : Int) + m.outs.length + m.statics.length) (by omega) (by omega), wrap_i64 (n := (m.ins.length : Int) + m.outs.length + m.statics.length + m.mons.length) (by omega) (by omega), wrap_i64 (by omega) (by omega)]
    rfl
  rintro q1 wy fry ⟨hwy, far1⟩
  obtain rfl := hwy.symm
  -- the objects
  refine seq_cut (σ := Int) (fun q => [(1, .pointer (some ⟨X, 0, none⟩)), (3, zi q)]) (fun q w' => w' = w1 ∧ Far q (m.ins.length + m.outs.length + m.statics.length + m.mons.length + m.objs.length + csum wObj m.objs)) ?_ ?_
  rotate_left
  · intro K hK
    refine seq_assign ?_
    refine den_loop (σ := Int × Nat) (fun s => [(1, .pointer (some ⟨X, 0, none⟩)), (3, zi s.1), (4, .int .i64 (s.2 : Int))]) (fun f s wl => f + s.2 = m.objs.length ∧ wl = w1 ∧ Far s.1 (m.ins.length + m.outs.length + m.statics.length + m.mons.length + m.objs.length + csum wObj (m.objs.take s.2))) m.objs.length (q1, 0)
      ⟨rfl, rfl, rfl, trivial⟩ ⟨rfl, rfl, by simpa [csum] using far1⟩ ?_
    rintro f ⟨q, i⟩ wl frl ⟨hfuel, hwl, far⟩
    obtain rfl := hwl.symm
    dsimp only at hfuel far
    refine Exists.intro O (Exists.intro m.objs.length (Exists.intro o (And.intro (cellB hM rfl) ?_)))
    refine if_p (fun hlt => ?_) (fun hge => ?_)
    · replace hlt : (i : Int) < (m.objs.length : Int) := hlt
      have hi : i < m.objs.length := by omega
      obtain ⟨f, rfl⟩ : ∃ f', f = f' + 1 := ⟨f - 1, by omega⟩
      refine if_p (fun h5 => ?_) (fun h5 => ?_)
      · replace h5 : q < 5000 := h5
        obtain ⟨a, cs, ea, ⟨v, rfl, lw⟩, hc⟩ := gO i hi
        obtain ⟨B, b, rfl, bw, _⟩ := lw.get valOk (by decide)
        refine Exists.intro O (Exists.intro m.objs.length (Exists.intro o (And.intro (cellB hM rfl) ?_)))
        refine And.intro (by omega) (And.intro hlt ?_)
        refine some_at ea ?_
        refine Exists.intro B (Exists.intro m.objs[i].words.length (Exists.intro b (And.intro (by rw [Int.toNat_natCast]; exact n1.cell (hc 1 _ rfl)) ?_)))
        have far' := far.add h5 (k := m.objs[i].words.length) (by omega)
        have hf2 := far'.2.1
        have hf1 := far.1
        refine ⟨f, (q + (m.objs[i].words.length : Int), i + 1), by omega, ⟨rfl, (show zi (IntKind.i64.wrap (q + (m.objs[i].words.length : Int))) = _ by rw [wrap_i64 (by omega) (by omega)]), incN hi bO, trivial⟩, by dsimp only; omega, rfl, ?_⟩
        dsimp only
        rw [List.take_succ_eq_append_getElem hi, csum_snoc, ← Nat.add_assoc]
        exact far'
      · replace h5 : ¬ q < 5000 := h5
        exact hK q _ _ ⟨rfl, rfl, trivial⟩ ⟨rfl, far.over (by omega) _⟩
    · replace hge : ¬ (i : Int) < (m.objs.length : Int) := hge
      obtain rfl : i = m.objs.length := by omega
      rw [List.take_length] at far
      exact hK q _ _ ⟨rfl, rfl, trivial⟩ ⟨rfl, far⟩
  rintro q2 wz frz ⟨hwz, far2⟩
  obtain rfl := hwz.symm
  clear far1
  generalize hN : m.ins.length + m.outs.length + m.statics.length + m.mons.length + m.objs.length + csum wObj m.objs = N at far2
  -- the threads
  refine seq_cut (σ := Int) (fun q => [(1, .pointer (some ⟨X, 0, none⟩)), (3, zi q)]) (fun q w' => New w1 w' ∧ Far q (N + csum wThr m.thrs)) ?_ ?_
  · rintro q wf frf ⟨nf, farf⟩
    refine ⟨_, rfl, fun hb => ?_, n1.trans nf⟩
    have h3 := of_decide_eq_true hb
    have := cost_weigh m
    have hwe : weigh m = N + csum wThr m.thrs := by rw [← hN]; rfl
    obtain ⟨_, _, c⟩ := farf
    omega
  intro K hK
  refine seq_assign ?_
  refine den_loop (σ := Int × Nat) (fun s => [(1, .pointer (some ⟨X, 0, none⟩)), (3, zi s.1), (5, .int .i64 (s.2 : Int))]) (fun f s wl => f + s.2 = m.thrs.length ∧ New w1 wl ∧ Far s.1 (N + csum wThr (m.thrs.take s.2))) m.thrs.length (q2, 0)
    ⟨rfl, rfl, rfl, trivial⟩ ⟨rfl, New.refl _, by simpa [csum] using far2⟩ ?_
  rintro f ⟨q, i⟩ wl frl ⟨hfuel, nl, far⟩
  dsimp only at hfuel far
  have hMl := nl.blk hM
  refine Exists.intro H (Exists.intro m.thrs.length (Exists.intro h (And.intro (cellB hMl rfl) ?_)))
  refine if_p (fun hlt => ?_) (fun hge => ?_)
  · replace hlt : (i : Int) < (m.thrs.length : Int) := hlt
    have hi : i < m.thrs.length := by omega
    obtain ⟨f, rfl⟩ : ∃ f', f = f' + 1 := ⟨f - 1, by omega⟩
    refine if_p (fun h5 => ?_) (fun h5 => ?_)
    · replace h5 : q < 5000 := h5
      obtain ⟨a, cs, ea, ⟨v, rfl, lw⟩, hc⟩ := gH i hi
      obtain ⟨B, b, rfl, bw, gw⟩ := lw.get callOk (by decide)
      have far1 := far.add h5 (k := 1) (by omega)
      have hnext : N + csum wThr (m.thrs.take (i + 1)) = N + csum wThr (m.thrs.take i) + 1 + csum wCall m.thrs[i].calls := by
        rw [List.take_succ_eq_append_getElem hi, csum_snoc]
        show N + (csum wThr (m.thrs.take i) + (1 + csum wCall m.thrs[i].calls)) = _
        omega
      have incq : zi (IntKind.i64.wrap (q + 1)) = zi (q + 1) := by
        have := far.1
        rw [wrap_i64 (by omega) (by omega)]
      refine den_loop (σ := Int × Nat) (fun s => [(1, .pointer (some ⟨X, 0, none⟩)), (3, zi s.1), (5, .int .i64 (i : Int)), (6, .int .i64 (s.2 : Int))]) (fun g s wk => g + s.2 = m.thrs[i].calls.length ∧ New wl wk ∧ Far s.1 (N + csum wThr (m.thrs.take i) + 1 + csum wCall (m.thrs[i].calls.take s.2))) m.thrs[i].calls.length (q + 1, 0)
        ⟨rfl, incq, rfl, rfl, trivial⟩ ⟨rfl, New.refl _, by simpa [csum] using far1⟩ ?_
      rintro g ⟨q', k⟩ wk frk ⟨hfuel2, nk, fark⟩
      dsimp only at hfuel2 fark
      have nlk := nl.trans nk
      have hMk := nk.blk hMl
      refine Exists.intro H (Exists.intro m.thrs.length (Exists.intro h (And.intro (cellB hMk rfl) ?_)))
      refine And.intro (by omega) (And.intro hlt ?_)
      refine some_at ea ?_
      refine Exists.intro B (Exists.intro m.thrs[i].calls.length (Exists.intro b (And.intro (by rw [Int.toNat_natCast]; exact (n1.trans nlk).cell (hc 1 _ rfl)) ?_)))
      refine if_p (fun hltk => ?_) (fun hgek => ?_)
      · replace hltk : (k : Int) < (m.thrs[i].calls.length : Int) := hltk
        have hk : k < m.thrs[i].calls.length := by omega
        obtain ⟨g, rfl⟩ : ∃ g', g = g' + 1 := ⟨g - 1, by omega⟩
        refine if_p (fun h6 => ?_) (fun h6 => ?_)
        · replace h6 : q' < 5000 := h6
          obtain ⟨a2, cs2, ea2, ⟨v2, u2, rfl, lv, lu⟩, hc2⟩ := gw k hk
          obtain ⟨D, d, rfl, bd, _⟩ := lv.get valOk (by decide)
          obtain ⟨E, e, rfl, be, _⟩ := lu.get valOk (by decide)
          refine draw_ (w := wk) ok (.q 0 (.q 1 (.q 2 (.q 3 (.q 4 (.q 5 (.q 6 (.q 7 (.q 8 (.q 9 (.q 10 (.q 11 (.q 12 (.q 13 (.q 14 (.q 15 (.q 16 (.q 17 (.q 18 (.q 19 (.q 20 (.q 21 (.q 22 (.q 23 (.q 24 (.q 25 (.q 26 .done))))))))))))))))))))))))))) [26] (New wk) (by kernel_rfl) (by kernel_rfl) (by kernel_rfl) (by kernel_rfl) (by kernel_rfl) (New.drew _) ?_
          refine Exists.intro H (Exists.intro m.thrs.length (Exists.intro h (And.intro (fun w'' hw => cellB (hw.blk hMk) rfl) ?_)))
          refine And.intro (by omega) (And.intro hlt ?_)
          refine some_at ea ?_
          refine Exists.intro B (Exists.intro m.thrs[i].calls.length (Exists.intro b (And.intro (fun w'' hw => by rw [Int.toNat_natCast]; exact ((n1.trans nlk).trans hw).cell (hc 1 _ rfl)) ?_)))
          refine And.intro (by omega) (And.intro hltk ?_)
          refine some_at ea2 ?_
          refine Exists.intro D (Exists.intro m.thrs[i].calls[k].locals.length (Exists.intro d (And.intro (fun w'' hw => by rw [Int.toNat_natCast]; exact ((n1.trans nlk).trans hw).cell (hc2 3 _ rfl)) ?_)))
          refine Exists.intro H (Exists.intro m.thrs.length (Exists.intro h (And.intro (fun w'' hw => cellB (hw.blk hMk) rfl) ?_)))
          refine And.intro (by omega) (And.intro hlt ?_)
          refine some_at ea ?_
          refine Exists.intro B (Exists.intro m.thrs[i].calls.length (Exists.intro b (And.intro (fun w'' hw => by rw [Int.toNat_natCast]; exact ((n1.trans nlk).trans hw).cell (hc 1 _ rfl)) ?_)))
          refine And.intro (by omega) (And.intro hltk ?_)
          refine some_at ea2 ?_
          refine Exists.intro E (Exists.intro m.thrs[i].calls[k].stack.length (Exists.intro e (And.intro (fun w'' hw => by rw [Int.toNat_natCast]; exact ((n1.trans nlk).trans hw).cell (hc2 4 _ rfl)) ?_)))
          have far' := fark.add h6 (k := wCall m.thrs[i].calls[k]) (by unfold wCall; omega)
          have hf2 := far'.2.1
          have hf1 := fark.1
          refine ⟨g, (q' + (wCall m.thrs[i].calls[k] : Int), k + 1), by omega, ⟨rfl, ?_, rfl, incN hk bw, trivial⟩, by dsimp only; omega, nk.trans (New.drew _), ?_⟩
          · show zi (IntKind.i64.wrap (q' + IntKind.i64.wrap (IntKind.i64.wrap (4 + (m.thrs[i].calls[k].locals.length : Int)) + (m.thrs[i].calls[k].stack.length : Int)))) = _
            unfold wCall at hf2 ⊢
            rw [wrap_i64 (n := 4 + (m.thrs[i].calls[k].locals.length : Int)) (by omega) (by omega), wrap_i64 (n := 4 + (m.thrs[i].calls[k].locals.length : Int) + (m.thrs[i].calls[k].stack.length : Int)) (by omega) (by omega), wrap_i64 (by omega) (by omega)]
            rfl
          · dsimp only
            rw [List.take_succ_eq_append_getElem hk, csum_snoc, ← Nat.add_assoc]
            exact far'
        · replace h6 : ¬ q' < 5000 := h6
          exact ⟨f, (q', i + 1), by omega, ⟨rfl, rfl, incN hi bH, trivial⟩, by dsimp only; omega, nlk, fark.over (by omega) _⟩
      · replace hgek : ¬ (k : Int) < (m.thrs[i].calls.length : Int) := hgek
        obtain rfl : k = m.thrs[i].calls.length := by omega
        rw [List.take_length, ← hnext] at fark
        exact ⟨f, (q', i + 1), by omega, ⟨rfl, rfl, incN hi bH, trivial⟩, by dsimp only; omega, nlk, fark⟩
    · replace h5 : ¬ q < 5000 := h5
      exact hK q _ _ ⟨rfl, rfl, trivial⟩ ⟨nl, far.over (by omega) _⟩
  · replace hge : ¬ (i : Int) < (m.thrs.length : Int) := hge
    obtain rfl : i = m.thrs.length := by omega
    rw [List.take_length] at far
    exact hK q _ _ ⟨rfl, rfl, trivial⟩ ⟨nl, far⟩
end Go.Proofs.Yteanhakkceancaa.Image
