/- The document's answer for machines told, walked: a machine. Printed by gentells.py. -/
import Derived.Test.YteanhakkceancaaITells1
import Derived.Test.YteanhakkceancaaStr
namespace Go.Proofs.Yteanhakkceancaa.Image
open Go Go.Proofs.Yteanhakkceancaa Go.Proofs.Yteanhakkceancaa.Eng Go.Proofs Go.Proofs.Yteanhakkceancaa.Word Go.Proofs.Yteanhakkceancaa.Fmt
open Go.Proofs.Yteanhakkceancaa.Pool (both own_low)
set_option maxRecDepth 10000

def kMach (m : Mach) : Prop := (∀ x ∈ m.statics, kVal x) ∧ (∀ o ∈ m.objs, ∀ x ∈ o.words, kVal x) ∧ ∀ t ∈ m.thrs, ∀ c ∈ t.calls, (∀ x ∈ c.locals, kVal x) ∧ ∀ x ∈ c.stack, kVal x
def rObj (o : Obj) : Nat := 261 + o.ty.length + csum cVal o.words
def rMach (m : Mach) : Nat := 56 + csum cInt m.ins + csum cInt m.outs + csum cVal m.statics + csum rObj m.objs + csum cThr m.thrs + csum cMon m.mons
theorem noteS_le (t : WT) (n : Int) : (noteS t 2 false [n]).1.length ≤ t.1.length + 2 := by
  have h1 := (Wri.num (t := t) Image.w2 (sign := false) (n := n) fun h => fits_small (.inr (.inl rfl)) h).1
  exact h1
theorem wri_obj_ref {t t4 : WT} {o : Obj} (h : Wri valsF (4 + csum cVal o.words) ((noteS (t.1, t.2 || decide ((255 : Int) < (o.ty.length : Int))) 2 false [if (255 : Int) < (o.ty.length : Int) then 255 else (o.ty.length : Int)]).1 ++ o.ty, (noteS (t.1, t.2 || decide ((255 : Int) < (o.ty.length : Int))) 2 false [if (255 : Int) < (o.ty.length : Int) then 255 else (o.ty.length : Int)]).2) o.words t4) : Wri objF (rObj o) t o t4 := by
  by_cases hl : (255 : Int) < (o.ty.length : Int)
  · rw [decide_eq_true hl, if_pos hl, Bool.or_true] at h
    have h1 := h.1
    have h2 := noteS_le (t.1, true) 255
    dsimp only at h1 h2
    rw [List.length_append] at h1
    refine ⟨by unfold rObj; omega, .inl ⟨?_, .inr fun o' => ?_⟩⟩
    · rcases h.2 with ⟨a, _⟩ | ⟨_, b, _⟩
      · exact a
      · unfold noteS at b
        simp at b
    · have := o'.2.1.2
      simp only [decide_eq_true_eq] at this
      have : o.ty.length ≤ 255 := this
      omega
  · rw [decide_eq_false hl, if_neg hl, Bool.or_false] at h
    exact (wri_obj (wri_ty (by omega)) h).le (by unfold cObj rObj; omega)
theorem wri_mach_any {d : Nat} {t0 t1 t2 t3 t4 t5 t6 t7 t8 t9 t10 : WT} {m : Mach} (h1 : Wri n8 8 t0 m.status t1) (h2 : Wri n8 8 t1 m.read t2) (h3 : Wri n8 8 t2 m.gone t3) (h4 : Wri n8 8 t3 m.steps t4)
    (h5 : Wri intsF (4 + csum cInt m.ins) t4 m.ins t5) (h6 : Wri intsF (4 + csum cInt m.outs) t5 m.outs t6) (h7 : Wri valsF (4 + csum cVal m.statics) t6 m.statics t7) (h8 : Wri (list 4 Image.w4 objF) d t7 m.objs t8) (h9 : Wri (list 4 Image.w4 thrF) (4 + csum cThr m.thrs) t8 m.thrs t9) (h10 : Wri (list 4 Image.w4 monF) (4 + csum cMon m.mons) t9 m.mons t10) :
    Wri machF (8 + (8 + (8 + (8 + ((4 + csum cInt m.ins) + ((4 + csum cInt m.outs) + ((4 + csum cVal m.statics) + (d + ((4 + csum cThr m.thrs) + (4 + csum cMon m.mons)))))))))) t0 m t10 :=
  Wri.via (h1.seq (h2.seq (h3.seq (h4.seq (h5.seq (h6.seq (h7.seq (h8.seq (h9.seq h10))))))))) rfl
theorem wri_bytes_any {d : Nat} {m : Mach} {t : WT} (h : Wri machF d ([], false) m t) : (t.2 = true → errOf m = 2 ∧ bytesOf m = []) ∧ (t.2 = false → most < t.1.length → errOf m = 3 ∧ bytesOf m = []) ∧ (t.2 = false → t.1.length ≤ most → errOf m = 0 ∧ bytesOf m = t.1) := by
  obtain ⟨_, h⟩ := h
  unfold errOf bytesOf
  rcases h with ⟨a, b⟩ | ⟨a, _, o, e⟩
  · have hb : ¬ machF.ok m := by
      rcases b with b | b
      · cases b
      · exact b
    refine ⟨fun _ => ⟨if_neg hb, if_neg fun h => hb h.1⟩, fun h => ?_, fun h => ?_⟩
    · rw [h] at a; cases a
    · rw [h] at a; cases a
  · rw [List.nil_append] at e
    rw [← e, if_pos o]
    refine ⟨fun h => ?_, fun _ h => ⟨if_neg (by omega), if_neg (by omega)⟩, fun _ h => ⟨if_pos h, if_pos ⟨o, h⟩⟩⟩
    rw [h] at a; cases a
theorem Vw.set {w w' : World} {base g : Nat} {v : Value} {t : WT} (c : Vw w base g v t) (m : Mod (fun b => b = g) w w') {b : Bool} (hb : w'.heap[g]? = some (.cells #[v, .bool b] 76 (0, 0))) : Kv w base g v w' v (t.1, b) :=
  ⟨⟨hb, own_mod m c.own (fun k hk e => c.off (by rw [hk, e])), c.off, c.bg⟩, m.mono fun _ _ e => .inl e, stayed.refl w v⟩
theorem l_off {α : Type} {R : RepT α} {w : World} {g : Nat} {A : Option Addr} {n c : Nat} {xs : List α} {a : Addr} {i : Nat} (h : LRep R w (fun b => g ≤ b) (.slice A n c) xs) (ha : A = some a) (hi : i < xs.length) : a.block < g := by
  obtain ⟨A', c', ts, e, hts, _, _, _, hr⟩ := h
  cases e
  have := (hr.off a ha (fun e => by rw [e] at hts; rw [← hts] at hi; simp at hi)).2
  omega
theorem rBytes_ok (cs0 : List Value) (m : Mach) (S : Nat → Prop) (w : World) (hx : machR w S cs0 m) (hf : fMach m) (hk : kMach m) (hm : rMach m ≤ 1000000000) :
    Calls Try.prog 9 #[.agg cs0.toArray] w (BRes w m) := by
  replace hx := machOk.weak (S' := fun b => w.heap.size + 1 ≤ b) hx fun b hb e => by omega
  obtain ⟨_, _, _, _, _, _, rfl, lb, ls, lt, lm, li, lo⟩ := hx
  obtain ⟨fa, fr, fg, fs, fi, fo, ft, fb, fh, fm⟩ := hf
  obtain ⟨kt, kb, kh⟩ := hk
  have hcost : rMach m = 56 + csum cInt m.ins + csum cInt m.outs + csum cVal m.statics + csum rObj m.objs + csum cThr m.thrs + csum cMon m.mons := rfl
  have lb0 := lb
  obtain ⟨Ab, cb, _, rfl, _, _, _, nzb, _⟩ := lb
  have ls0 := ls
  obtain ⟨As, cs, _, rfl, _, _, _, nzs, _⟩ := ls
  have lt0 := lt
  obtain ⟨At, ct, _, rfl, _, _, _, nzt, _⟩ := lt
  have lm0 := lm
  obtain ⟨Am, cm, _, rfl, _, _, _, nzm, _⟩ := lm
  have li0 := li
  obtain ⟨Ai, ci, _, rfl, _, _, _, nzi, _⟩ := li
  have lo0 := lo
  obtain ⟨Ao, co, _, rfl, _, _, _, nzo, _⟩ := lo
  refine enter ok Try.func9 rfl rfl rfl ?_
  refine seq_cut (σ := Unit) (fun _ => [(1, .pointer (some ⟨w.heap.size, 0, none⟩))]) (fun _ w' => New w w' ∧ w'.heap.size = w.heap.size + 1 ∧ w'.heap[w.heap.size]? = some (.cells #[zi m.status, .slice Ab m.objs.length cb, .slice As m.statics.length cs, .slice At m.thrs.length ct, .slice Am m.mons.length cm, zi m.read, .slice Ai m.ins.length ci, .slice Ao m.outs.length co, zi m.gone, zi m.steps] 28 (0, 0))) ?_ ?_
  rotate_left
  · intro K hK
    exact hK () _ _ ⟨rfl, trivial⟩ ⟨New.alloc w _, by simp, heap_alloc_new w (.cells #[zi m.status, .slice Ab m.objs.length cb, .slice As m.statics.length cs, .slice At m.thrs.length ct, .slice Am m.mons.length cm, zi m.read, .slice Ai m.ins.length ci, .slice Ao m.outs.length co, zi m.gone, zi m.steps] 28)⟩
  rintro _ w1 fr1 ⟨n1, z1, hM1⟩
  refine seq_cut (σ := Unit) (fun _ => [(1, .pointer (some ⟨w.heap.size, 0, none⟩)), (4, .pointer (some ⟨w.heap.size + 1, 0, none⟩))]) (fun _ w' => Vw w' (w.heap.size + 1) (w.heap.size + 1) (.slice none 0 0) ([], false) ∧ New w w' ∧ w'.heap[w.heap.size]? = some (.cells #[zi m.status, .slice Ab m.objs.length cb, .slice As m.statics.length cs, .slice At m.thrs.length ct, .slice Am m.mons.length cm, zi m.read, .slice Ai m.ins.length ci, .slice Ao m.outs.length co, zi m.gone, zi m.steps] 28 (0, 0))) ?_ ?_
  rotate_left
  · intro K hK
    have n2 := New.alloc w1 (.cells #[.slice none 0 0, .bool false] 76)
    have hb2 := heap_alloc_new w1 (.cells #[.slice none 0 0, .bool false] 76)
    rw [z1] at hb2
    exact hK () _ _ ⟨rfl, (show Value.pointer (some ⟨w1.heap.size, 0, none⟩) = _ by rw [z1]), trivial⟩ ⟨⟨hb2, ⟨rfl, .inl ⟨rfl, rfl⟩⟩, (fun h => by cases h), Nat.le_refl _⟩, n1.trans n2, n2.blk hM1⟩
  rintro _ w2 fr2 ⟨c2, n2, hM2⟩
  obtain ⟨g, hg⟩ : ∃ g, g = w.heap.size + 1 := ⟨_, rfl⟩
  obtain ⟨M, hMd⟩ : ∃ M, M = w.heap.size := ⟨_, rfl⟩
  rw [← hg] at c2 lb0 ls0 lt0 lm0 li0 lo0 ⊢
  rw [← hMd] at hM2 ⊢
  have hMg : ¬ g ≤ M := by omega
  -- the numbers
  refine seq_cut (σ := Value) (fun _ => [(1, .pointer (some ⟨M, 0, none⟩)), (4, .pointer (some ⟨g, 0, none⟩))]) (fun v' w' => Kv w2 g g (.slice none 0 0) w' v' (noteS ([], false) 8 true [m.status, m.read, m.gone, m.steps])) ?_ ?_
  rotate_left
  · intro K hK
    refine Exists.intro m.status (And.intro (cellB hM2 rfl) ?_)
    refine Exists.intro m.read (And.intro (cellB hM2 rfl) ?_)
    refine Exists.intro m.gone (And.intro (cellB hM2 rfl) ?_)
    refine Exists.intro m.steps (And.intro (cellB hM2 rfl) ?_)
    refine call_ (rnumbers1_ok g g (.slice none 0 0) ([], false) [m.status, m.read, m.gone, m.steps] 4 w2 c2 rfl (fun z hz => by
      simp only [List.mem_cons, List.not_mem_nil, or_false] at hz
      rcases hz with rfl | rfl | rfl | rfl
      · exact fa
      · exact fr
      · exact fg
      · exact fs) (by simp)) ?_
    rintro e w3 ⟨rfl, v3, k3⟩
    refine ⟨_, rfl, ?_⟩
    exact hK v3 _ _ ⟨rfl, rfl, trivial⟩ k3
  rintro v3 w3 fr3 k3
  rw [noteS4] at k3
  have q1 := Wri.num (t := ([], false)) Image.w8 (sign := true) (n := m.status) fun _ => fa
  have q2 := Wri.num (t := noteS ([], false) 8 true [m.status]) Image.w8 (sign := true) (n := m.read) fun _ => fr
  have q3 := Wri.num (t := noteS (noteS ([], false) 8 true [m.status]) 8 true [m.read]) Image.w8 (sign := true) (n := m.gone) fun _ => fg
  have q4 := Wri.num (t := noteS (noteS (noteS ([], false) 8 true [m.status]) 8 true [m.read]) 8 true [m.gone]) Image.w8 (sign := true) (n := m.steps) fun _ => fs
  generalize noteS ([], false) 8 true [m.status] = u1 at k3 q1 q2 q3 q4
  generalize noteS u1 8 true [m.read] = u2 at k3 q2 q3 q4
  generalize noteS u2 8 true [m.gone] = u3 at k3 q3 q4
  generalize noteS u3 8 true [m.steps] = t3 at k3 q4
  have p1 := q1.1
  have p2 := q2.1
  have p3 := q3.1
  have p4 := q4.1
  simp only [List.length_nil] at p1
  have c3 := k3.vw
  have o3 : Mod (fun b => g ≤ b) w2 w3 := c2.old k3.mod
  clear k3
  refine seq_cut (σ := Value × WT) (fun _ => [(1, .pointer (some ⟨M, 0, none⟩)), (4, .pointer (some ⟨g, 0, none⟩))]) (fun s w' => Vw w' g g s.1 s.2 ∧ Mod (fun b => g ≤ b) w2 w' ∧ Wri (num 4 false Image.w4) 4 t3 (m.ins.length : Int) s.2) ?_ ?_
  rotate_left
  · intro K hK
    have hMz := o3.blk hM2 hMg
    refine Exists.intro Ai (Exists.intro m.ins.length (Exists.intro ci (And.intro (cellB hMz rfl) ?_)))
    refine call_ (rmany_ok g g v3 t3 m.ins.length w3 c3 nzi (by omega)) ?_
    rintro e wa ⟨rfl, va, ta, ka, wra⟩
    refine ⟨_, rfl, ?_⟩
    exact hK (va, ta) _ _ ⟨rfl, rfl, trivial⟩ ⟨ka.vw, both o3 (c3.old ka.mod), wra⟩
  rintro ⟨v4, t4⟩ w4 fr4 ⟨c4, o4, wr4⟩
  dsimp only at c4 wr4
  have p5 := wr4.1
  refine seq_cut (σ := Value × WT) (fun _ => [(1, .pointer (some ⟨M, 0, none⟩)), (4, .pointer (some ⟨g, 0, none⟩))]) (fun s w' => Vw w' g g s.1 s.2 ∧ Mod (fun b => g ≤ b) w2 w' ∧ Wri intsF (4 + csum cInt m.ins) t3 m.ins s.2) ?_ ?_
  rotate_left
  · intro K hK
    have hMz := o4.blk hM2 hMg
    obtain ⟨_, _, he, _, row⟩ := ints_row (LRep.mod intOk (by decide) (LRep.mod intOk (by decide) li0 n2.mod) o4)
    cases he
    refine Exists.intro Ai (Exists.intro m.ins.length (Exists.intro ci (And.intro (cellB hMz rfl) ?_)))
    refine call_ (rnumbers_ok g g v4 t4 Ai _ ci m.ins w4 c4 row rfl fi (by
      have hcs : csum cInt m.ins = 8 * m.ins.length := by
        have : ∀ l : List Int, csum cInt l = 8 * l.length := fun l => by
          induction l with
          | nil => rfl
          | cons a r ih =>
            have h1 : csum cInt (a :: r) = 8 + csum cInt r := rfl
            rw [h1, ih, List.length_cons, Nat.mul_add, Nat.add_comm]
        exact this _
      omega)) ?_
    rintro e wa ⟨rfl, va, ka⟩
    refine ⟨_, rfl, ?_⟩
    exact hK (va, noteS t4 8 true m.ins) _ _ ⟨rfl, rfl, trivial⟩ ⟨ka.vw, both o4 (c4.old ka.mod), wri_ints wr4 fi⟩
  rintro ⟨v5, t5⟩ w5 fr5 ⟨c5, o5, wr5⟩
  dsimp only at c5 wr5
  have p6 := wr5.1
  refine seq_cut (σ := Value × WT) (fun _ => [(1, .pointer (some ⟨M, 0, none⟩)), (4, .pointer (some ⟨g, 0, none⟩))]) (fun s w' => Vw w' g g s.1 s.2 ∧ Mod (fun b => g ≤ b) w2 w' ∧ Wri (num 4 false Image.w4) 4 t5 (m.outs.length : Int) s.2) ?_ ?_
  rotate_left
  · intro K hK
    have hMz := o5.blk hM2 hMg
    refine Exists.intro Ao (Exists.intro m.outs.length (Exists.intro co (And.intro (cellB hMz rfl) ?_)))
    refine call_ (rmany_ok g g v5 t5 m.outs.length w5 c5 nzo (by omega)) ?_
    rintro e wa ⟨rfl, va, ta, ka, wra⟩
    refine ⟨_, rfl, ?_⟩
    exact hK (va, ta) _ _ ⟨rfl, rfl, trivial⟩ ⟨ka.vw, both o5 (c5.old ka.mod), wra⟩
  rintro ⟨v6, t6⟩ w6 fr6 ⟨c6, o6, wr6⟩
  dsimp only at c6 wr6
  have p7 := wr6.1
  refine seq_cut (σ := Value × WT) (fun _ => [(1, .pointer (some ⟨M, 0, none⟩)), (4, .pointer (some ⟨g, 0, none⟩))]) (fun s w' => Vw w' g g s.1 s.2 ∧ Mod (fun b => g ≤ b) w2 w' ∧ Wri intsF (4 + csum cInt m.outs) t5 m.outs s.2) ?_ ?_
  rotate_left
  · intro K hK
    have hMz := o6.blk hM2 hMg
    obtain ⟨_, _, he, _, row⟩ := ints_row (LRep.mod intOk (by decide) (LRep.mod intOk (by decide) lo0 n2.mod) o6)
    cases he
    refine Exists.intro Ao (Exists.intro m.outs.length (Exists.intro co (And.intro (cellB hMz rfl) ?_)))
    refine call_ (rnumbers_ok g g v6 t6 Ao _ co m.outs w6 c6 row rfl fo (by
      have hcs : csum cInt m.outs = 8 * m.outs.length := by
        have : ∀ l : List Int, csum cInt l = 8 * l.length := fun l => by
          induction l with
          | nil => rfl
          | cons a r ih =>
            have h1 : csum cInt (a :: r) = 8 + csum cInt r := rfl
            rw [h1, ih, List.length_cons, Nat.mul_add, Nat.add_comm]
        exact this _
      omega)) ?_
    rintro e wa ⟨rfl, va, ka⟩
    refine ⟨_, rfl, ?_⟩
    exact hK (va, noteS t6 8 true m.outs) _ _ ⟨rfl, rfl, trivial⟩ ⟨ka.vw, both o6 (c6.old ka.mod), wri_ints wr6 fo⟩
  rintro ⟨v7, t7⟩ w7 fr7 ⟨c7, o7, wr7⟩
  dsimp only at c7 wr7
  have p8 := wr7.1
  refine seq_cut (σ := Value × WT) (fun _ => [(1, .pointer (some ⟨M, 0, none⟩)), (4, .pointer (some ⟨g, 0, none⟩))]) (fun s w' => Vw w' g g s.1 s.2 ∧ Mod (fun b => g ≤ b) w2 w' ∧ Wri valsF (4 + csum cVal m.statics) t7 m.statics s.2) ?_ ?_
  rotate_left
  · intro K hK
    have hMz := o7.blk hM2 hMg
    refine Exists.intro As (Exists.intro m.statics.length (Exists.intro cs (And.intro (cellB hMz rfl) ?_)))
    refine call_ (rvalues_ok g g v7 t7 _ m.statics w7 c7 (LRep.mod valOk (by decide) (LRep.mod valOk (by decide) ls0 n2.mod) o7) kt (by omega)) ?_
    rintro e wa ⟨rfl, va, ta, ka, wra⟩
    refine ⟨_, rfl, ?_⟩
    exact hK (va, ta) _ _ ⟨rfl, rfl, trivial⟩ ⟨ka.vw, both o7 (c7.old ka.mod), wra⟩
  rintro ⟨v8, t8⟩ w8 fr8 ⟨c8, o8, wr8⟩
  dsimp only at c8 wr8
  have p9 := wr8.1
  refine seq_cut (σ := Value × WT) (fun _ => [(1, .pointer (some ⟨M, 0, none⟩)), (4, .pointer (some ⟨g, 0, none⟩))]) (fun s w' => Vw w' g g s.1 s.2 ∧ Mod (fun b => g ≤ b) w2 w' ∧ Wri (num 4 false Image.w4) 4 t8 (m.objs.length : Int) s.2) ?_ ?_
  rotate_left
  · intro K hK
    have hMz := o8.blk hM2 hMg
    refine Exists.intro Ab (Exists.intro m.objs.length (Exists.intro cb (And.intro (cellB hMz rfl) ?_)))
    refine call_ (rmany_ok g g v8 t8 m.objs.length w8 c8 nzb (by omega)) ?_
    rintro e wa ⟨rfl, va, ta, ka, wra⟩
    refine ⟨_, rfl, ?_⟩
    exact hK (va, ta) _ _ ⟨rfl, rfl, trivial⟩ ⟨ka.vw, both o8 (c8.old ka.mod), wra⟩
  rintro ⟨v9, t9⟩ w9 fr9 ⟨c9, o9, wr9⟩
  dsimp only at c9 wr9
  have p10 := wr9.1
  refine seq_cut (σ := Value × WT) (fun _ => [(1, .pointer (some ⟨M, 0, none⟩)), (4, .pointer (some ⟨g, 0, none⟩))]) (fun s w' => Vw w' g g s.1 s.2 ∧ Mod (fun b => g ≤ b) w2 w' ∧ Wri (list 4 Image.w4 objF) (4 + csum rObj m.objs) t8 m.objs s.2) ?_ ?_
  rotate_left
  · intro K hK
    refine seq_assign ?_
    refine den_loop (σ := Nat × Value × WT) (fun s => [(1, .pointer (some ⟨M, 0, none⟩)), (4, .pointer (some ⟨g, 0, none⟩)), (5, .int .i64 (s.1 : Int))])
      (fun f s wl => f + s.1 = m.objs.length ∧ Vw wl g g s.2.1 s.2.2 ∧ Mod (fun b => g ≤ b) w2 wl ∧ WLst objF rObj t8 m.objs s.1 s.2.2) m.objs.length (0, v9, t9) ⟨rfl, rfl, rfl, trivial⟩ ⟨rfl, c9, o9, WLst.start wr9⟩ ?_
    rintro f ⟨i, vl, tl⟩ wl frl ⟨hfuel, cl, ol, hw⟩
    dsimp only at hfuel cl hw
    have hMl := ol.blk hM2 hMg
    refine seq_cut (σ := Unit) (fun _ => [(1, .pointer (some ⟨M, 0, none⟩)), (4, .pointer (some ⟨g, 0, none⟩)), (5, .int .i64 (i : Int))]) (fun _ w' => w' = wl ∧ i < m.objs.length) ?_ ?_
    rotate_left
    · intro K2 hK2
      refine Exists.intro Ab (Exists.intro m.objs.length (Exists.intro cb (And.intro (cellB hMl rfl) ?_)))
      refine if_p (fun hlt => ?_) (fun hge => ?_)
      · replace hlt : (i : Int) < (m.objs.length : Int) := hlt
        exact hK2 () _ _ ⟨rfl, rfl, rfl, trivial⟩ ⟨rfl, by omega⟩
      · replace hge : ¬ (i : Int) < (m.objs.length : Int) := hge
        obtain rfl : i = m.objs.length := by omega
        exact hK (vl, tl) _ _ ⟨rfl, rfl, trivial⟩ ⟨cl, ol, hw.done⟩
    rintro _ wy fry ⟨hwy, hi⟩
    obtain rfl := hwy.symm
    have hlt : (i : Int) < (m.objs.length : Int) := by omega
    obtain ⟨f, rfl⟩ : ∃ f', f = f' + 1 := ⟨f - 1, by omega⟩
    have inc := incN hi nzb
    have hcs : csum rObj (m.objs.take i) + rObj m.objs[i] ≤ csum rObj m.objs := by
      have h1 := csum_le rObj m.objs (i + 1)
      rw [List.take_succ_eq_append_getElem hi, csum_snoc] at h1
      exact h1
    have hw1 := hw.1
    obtain ⟨_, _, he, _, gx⟩ := (LRep.mod objOk (by decide) (LRep.mod objOk (by decide) lb0 n2.mod) ol).get objOk (by decide)
    cases he
    obtain ⟨a, cx, ea, hxx, hc⟩ := gx i hi
    refine seq_cut (σ := Value × WT) (fun _ => [(1, .pointer (some ⟨M, 0, none⟩)), (4, .pointer (some ⟨g, 0, none⟩)), (5, .int .i64 (i : Int))]) (fun s w' => Vw w' g g s.1 s.2 ∧ Mod (fun b => g ≤ b) wl w' ∧ Wri objF (rObj m.objs[i]) tl m.objs[i] s.2) ?_ ?_
    · rintro ⟨v9, t9⟩ w9 fr9 ⟨c9, o9, wr9⟩
      exact ⟨f, (i + 1, v9, t9), by omega, ⟨rfl, rfl, inc, trivial⟩, by dsimp only; omega, c9, both ol o9, hw.step hi wr9⟩
    have hmem : m.objs[i] ∈ m.objs := List.getElem_mem hi
    generalize m.objs[i] = y at hxx hcs hmem ⊢
    intro K3 hK3
    refine block_ ?_
    obtain ⟨vv, rfl, hv⟩ := hxx
    have hv0 := hv
    obtain ⟨Av, cv, _, rfl, _⟩ := hv
    have hry : rObj y = 261 + y.ty.length + csum cVal y.words := rfl
    refine seq_cut (σ := Unit) (fun _ => [(1, .pointer (some ⟨M, 0, none⟩)), (4, .pointer (some ⟨g, 0, none⟩)), (5, .int .i64 (i : Int)), (6, .string ⟨y.ty.toArray⟩)]) (fun _ w' => w' = wl) ?_ ?_
    rotate_left
    · intro K4 hK4
      refine Exists.intro Ab (Exists.intro m.objs.length (Exists.intro cb (And.intro (cellB hMl rfl) ?_)))
      refine And.intro (by omega) (And.intro hlt ?_)
      refine some_at ea ?_
      refine Exists.intro (⟨y.ty.toArray⟩ : ByteArray) (And.intro (by rw [Int.toNat_natCast]; exact hc 0 _ rfl) ?_)
      exact hK4 () _ _ ⟨rfl, rfl, rfl, rfl, trivial⟩ rfl
    rintro _ wz frz hwz
    obtain rfl := hwz.symm
    refine seq_cut (σ := Unit) (fun _ => [(1, .pointer (some ⟨M, 0, none⟩)), (4, .pointer (some ⟨g, 0, none⟩)), (5, .int .i64 (i : Int)), (6, .string ⟨y.ty.toArray⟩)]) (fun _ w' => Kv wl g g vl w' vl (tl.1, tl.2 || decide ((255 : Int) < (y.ty.length : Int)))) ?_ ?_
    rotate_left
    · intro K4 hK4
      have hb := cl.blk
      refine Exists.intro tl.2 (And.intro (cellB hb rfl) ?_)
      refine if_ (fun hx => ?_) (fun hx => ?_)
      · refine And.intro ⟨_, cellB hb rfl⟩ (And.intro (fzB hb _) (force_ ?_))
        refine stK hb (show (1 : Nat) < 2 by decide) ?_
        intro wq hbq mq sq
        rw [hx, Bool.true_or] at hK4
        exact hK4 () _ _ ⟨rfl, rfl, rfl, rfl, trivial⟩ (cl.set mq hbq)
      · refine And.intro ⟨_, cellB hb rfl⟩ (And.intro (fzB hb _) (force_ ?_))
        refine stK hb (show (1 : Nat) < 2 by decide) ?_
        intro wq hbq mq sq
        rw [hx, Bool.false_or] at hK4
        replace hbq : wq.heap[g]? = some (.cells #[vl, .bool (decide ((255 : Int) < ((ByteArray.mk y.ty.toArray).size : Int)))] 76 (0, 0)) := hbq
        rw [size_str] at hbq
        exact hK4 () _ _ ⟨rfl, rfl, rfl, rfl, trivial⟩ (cl.set mq hbq)
    rintro _ wq frq kq
    have hn2 := noteS_le (tl.1, tl.2 || decide ((255 : Int) < (y.ty.length : Int))) (if (255 : Int) < (y.ty.length : Int) then 255 else (y.ty.length : Int))
    dsimp only at hn2
    refine seq_cut (σ := Value) (fun _ => [(1, .pointer (some ⟨M, 0, none⟩)), (4, .pointer (some ⟨g, 0, none⟩)), (5, .int .i64 (i : Int)), (6, .string ⟨y.ty.toArray⟩)]) (fun v' w' => Kv wl g g vl w' v' (noteS (tl.1, tl.2 || decide ((255 : Int) < (y.ty.length : Int))) 2 false [if (255 : Int) < (y.ty.length : Int) then 255 else (y.ty.length : Int)])) ?_ ?_
    rotate_left
    · intro K4 hK4
      have hpa := rput1_ok g g vl (tl.1, tl.2 || decide ((255 : Int) < (y.ty.length : Int))) 2 false [if (255 : Int) < ((ByteArray.mk y.ty.toArray).size : Int) then 255 else ((ByteArray.mk y.ty.toArray).size : Int)] 1 wq kq.vw rfl (fun z hz => by rw [List.mem_singleton.1 hz, size_str]; unfold i64; split <;> omega) (by simp; omega)
      refine call_ hpa ?_
      rintro e we ⟨rfl, ve, ke⟩
      rw [size_str] at ke
      refine ⟨_, rfl, ?_⟩
      exact hK4 ve _ _ ⟨rfl, rfl, rfl, rfl, trivial⟩ (kq.then ke)
    rintro vr wr frr kr
    have ollr := cl.old kr.mod
    have ht2l : (noteS (tl.1, tl.2 || decide ((255 : Int) < (y.ty.length : Int))) 2 false [if (255 : Int) < (y.ty.length : Int) then 255 else (y.ty.length : Int)]).1.length ≤ tl.1.length + 2 := hn2
    generalize hT2 : (noteS (tl.1, tl.2 || decide ((255 : Int) < (y.ty.length : Int))) 2 false [if (255 : Int) < (y.ty.length : Int) then 255 else (y.ty.length : Int)]) = tr at kr ht2l
    refine seq_cut (σ := Value) (fun _ => [(1, .pointer (some ⟨M, 0, none⟩)), (4, .pointer (some ⟨g, 0, none⟩)), (5, .int .i64 (i : Int))]) (fun v' w' => Vw w' g g v' (tr.1 ++ y.ty, tr.2) ∧ Mod (fun b => g ≤ b) wl w') ?_ ?_
    rotate_left
    · intro K4 hK4
      have ownr := kr.vw.own
      have hbr := kr.vw.blk
      have offr := kr.vw.off
      obtain ⟨Ar, cr, rfl, _⟩ := own_slice kr.vw.own
      refine Exists.intro Ar (Exists.intro tr.1.length (Exists.intro cr (And.intro (cellB hbr rfl) ?_)))
      refine append_str_ ok rfl rfl rfl rfl rfl rfl rfl rfl rfl ownr rfl rfl (by omega) kr.vw.bw ?_
      intro A7 c7 w7 own7 mod7
      have hb7 := mod7.blk hbr (fun e => offr e.symm)
      have e7 : (Value.slice A7 (tr.1.length + y.ty.length) c7).ownBlock ≠ some g := fun e => by
        rcases own7.2 with ⟨h1, _⟩ | ⟨gg, cap, cur, h1, _, h3, _⟩
        · rw [h1] at e; cases e
        · rw [h1] at e
          simp only [Value.ownBlock, Option.some.injEq] at e
          rw [e, hb7] at h3
          cases h3
      refine And.intro ⟨_, cellB hb7 rfl⟩ (And.intro (fzB hb7 _) (force_ ?_))
      refine stK hb7 (show (0 : Nat) < 2 by decide) ?_
      intro w8 hb8 m8 s8
      have own8 := own_mod m8 own7 (fun b hb e => e7 (by rw [hb, e]))
      rw [← bvs_append, ← List.length_append] at own8
      refine hK4 _ _ _ ⟨rfl, rfl, rfl, trivial⟩ ⟨⟨(show w8.heap[g]? = some (.cells #[.slice A7 (tr.1 ++ y.ty).length c7, .bool tr.2] 76 (0, 0)) by rw [List.length_append]; exact hb8), own8, by rw [List.length_append]; exact e7, Nat.le_refl _⟩, ?_⟩
      refine Mod.trans ollr (Mod.trans (mod7.mono (S' := fun b => g ≤ b) fun b hb e => (ownr.lt b e.symm).1) (m8.mono (S' := fun b => g ≤ b) fun b hb e => by omega) fun _ _ e => e) fun _ _ e => e
    rintro vu wu fru ⟨cu, ou⟩
    refine Exists.intro Ab (Exists.intro m.objs.length (Exists.intro cb (And.intro (cellB (ou.blk hMl hMg) rfl) ?_)))
    refine And.intro (by omega) (And.intro hlt ?_)
    refine some_at ea ?_
    have hcell : wu.cell? ((a.add (i * 2)).add 1) = some (.slice Av y.words.length cv) := ou.cell (hc 1 _ rfl) (by
      have := (l_off lb0 ea hi)
      rw [add_block, add_block]
      omega)
    refine Exists.intro Av (Exists.intro y.words.length (Exists.intro cv (And.intro (by rw [Int.toNat_natCast]; exact hcell) ?_)))
    refine call_ (rvalues_ok g g vu _ _ y.words wu cu (LRep.mod valOk (by decide) hv0 ou) (kb y hmem) (by dsimp only; rw [List.length_append]; omega)) ?_
    rintro e we ⟨rfl, ve, te, ke, wre⟩
    refine ⟨_, rfl, ?_⟩
    rw [← hT2] at wre
    exact hK3 (ve, te) _ _ ⟨rfl, rfl, rfl, trivial⟩ ⟨ke.vw, both ou (cu.old ke.mod), wri_obj_ref wre⟩
  rintro ⟨v10, t10⟩ w10 fr10 ⟨c10, o10, wr10⟩
  dsimp only at c10 wr10
  have p11 := wr10.1
  refine seq_cut (σ := Value × WT) (fun _ => [(1, .pointer (some ⟨M, 0, none⟩)), (4, .pointer (some ⟨g, 0, none⟩))]) (fun s w' => Vw w' g g s.1 s.2 ∧ Mod (fun b => g ≤ b) w2 w' ∧ Wri (num 4 false Image.w4) 4 t10 (m.thrs.length : Int) s.2) ?_ ?_
  rotate_left
  · intro K hK
    have hMz := o10.blk hM2 hMg
    refine Exists.intro At (Exists.intro m.thrs.length (Exists.intro ct (And.intro (cellB hMz rfl) ?_)))
    refine call_ (rmany_ok g g v10 t10 m.thrs.length w10 c10 nzt (by omega)) ?_
    rintro e wa ⟨rfl, va, ta, ka, wra⟩
    refine ⟨_, rfl, ?_⟩
    exact hK (va, ta) _ _ ⟨rfl, rfl, trivial⟩ ⟨ka.vw, both o10 (c10.old ka.mod), wra⟩
  rintro ⟨v11, t11⟩ w11 fr11 ⟨c11, o11, wr11⟩
  dsimp only at c11 wr11
  have p12 := wr11.1
  refine seq_cut (σ := Value × WT) (fun _ => [(1, .pointer (some ⟨M, 0, none⟩)), (4, .pointer (some ⟨g, 0, none⟩))]) (fun s w' => Vw w' g g s.1 s.2 ∧ Mod (fun b => g ≤ b) w2 w' ∧ Wri (list 4 Image.w4 thrF) (4 + csum cThr m.thrs) t10 m.thrs s.2) ?_ ?_
  rotate_left
  · intro K hK
    refine seq_assign ?_
    refine den_loop (σ := Nat × Value × WT) (fun s => [(1, .pointer (some ⟨M, 0, none⟩)), (4, .pointer (some ⟨g, 0, none⟩)), (7, .int .i64 (s.1 : Int))])
      (fun f s wl => f + s.1 = m.thrs.length ∧ Vw wl g g s.2.1 s.2.2 ∧ Mod (fun b => g ≤ b) w2 wl ∧ WLst thrF cThr t10 m.thrs s.1 s.2.2) m.thrs.length (0, v11, t11) ⟨rfl, rfl, rfl, trivial⟩ ⟨rfl, c11, o11, WLst.start wr11⟩ ?_
    rintro f ⟨i, vl, tl⟩ wl frl ⟨hfuel, cl, ol, hw⟩
    dsimp only at hfuel cl hw
    have hMl := ol.blk hM2 hMg
    refine seq_cut (σ := Unit) (fun _ => [(1, .pointer (some ⟨M, 0, none⟩)), (4, .pointer (some ⟨g, 0, none⟩)), (7, .int .i64 (i : Int))]) (fun _ w' => w' = wl ∧ i < m.thrs.length) ?_ ?_
    rotate_left
    · intro K2 hK2
      refine Exists.intro At (Exists.intro m.thrs.length (Exists.intro ct (And.intro (cellB hMl rfl) ?_)))
      refine if_p (fun hlt => ?_) (fun hge => ?_)
      · replace hlt : (i : Int) < (m.thrs.length : Int) := hlt
        exact hK2 () _ _ ⟨rfl, rfl, rfl, trivial⟩ ⟨rfl, by omega⟩
      · replace hge : ¬ (i : Int) < (m.thrs.length : Int) := hge
        obtain rfl : i = m.thrs.length := by omega
        exact hK (vl, tl) _ _ ⟨rfl, rfl, trivial⟩ ⟨cl, ol, hw.done⟩
    rintro _ wy fry ⟨hwy, hi⟩
    obtain rfl := hwy.symm
    have hlt : (i : Int) < (m.thrs.length : Int) := by omega
    obtain ⟨f, rfl⟩ : ∃ f', f = f' + 1 := ⟨f - 1, by omega⟩
    have inc := incN hi nzt
    have hcs : csum cThr (m.thrs.take i) + cThr m.thrs[i] ≤ csum cThr m.thrs := by
      have h1 := csum_le cThr m.thrs (i + 1)
      rw [List.take_succ_eq_append_getElem hi, csum_snoc] at h1
      exact h1
    have hw1 := hw.1
    obtain ⟨_, _, he, _, gx⟩ := (LRep.mod thrOk (by decide) (LRep.mod thrOk (by decide) lt0 n2.mod) ol).get thrOk (by decide)
    cases he
    obtain ⟨a, cx, ea, hxx, hc⟩ := gx i hi
    refine seq_cut (σ := Value × WT) (fun _ => [(1, .pointer (some ⟨M, 0, none⟩)), (4, .pointer (some ⟨g, 0, none⟩)), (7, .int .i64 (i : Int))]) (fun s w' => Vw w' g g s.1 s.2 ∧ Mod (fun b => g ≤ b) wl w' ∧ Wri thrF (cThr m.thrs[i]) tl m.thrs[i] s.2) ?_ ?_
    · rintro ⟨v9, t9⟩ w9 fr9 ⟨c9, o9, wr9⟩
      exact ⟨f, (i + 1, v9, t9), by omega, ⟨rfl, rfl, inc, trivial⟩, by dsimp only; omega, c9, both ol o9, hw.step hi wr9⟩
    have hmem : m.thrs[i] ∈ m.thrs := List.getElem_mem hi
    generalize m.thrs[i] = y at hxx hcs hmem ⊢
    intro K3 hK3
    refine block_ ?_
    obtain ⟨vv, rfl, hv⟩ := hxx
    have hv0 := hv
    obtain ⟨Av, cv, _, rfl, _, _, _, zv, _⟩ := hv
    have hone := thrOk.one (w := wl) (S := fun b => g ≤ b) (x := y) ⟨_, rfl, hv0⟩
    have hcy : cThr y = 28 + csum cCall y.calls := rfl
    obtain ⟨f1, f2, f3, f4⟩ := fh y hmem
    have hkh := kh y hmem
    refine seq_cut (σ := Nat) (fun T => [(1, .pointer (some ⟨M, 0, none⟩)), (4, .pointer (some ⟨g, 0, none⟩)), (7, .int .i64 (i : Int)), (8, .pointer (some ⟨T, 0, none⟩))]) (fun T w' => New wl w' ∧ T = wl.heap.size ∧ T < w'.heap.size ∧ w'.heap[T]? = some (.cells #[zi y.state, .slice Av y.calls.length cv, zi y.on, zi y.count] 48 (0, 0))) ?_ ?_
    rotate_left
    · intro K4 hK4
      refine Exists.intro At (Exists.intro m.thrs.length (Exists.intro ct (And.intro (cellB hMl rfl) ?_)))
      refine And.intro (by omega) (And.intro hlt ?_)
      refine some_at ea ?_
      refine loadN_row (vs := [zi y.state, .slice Av y.calls.length cv, zi y.on, zi y.count]) (fun j u hu => by rw [Int.toNat_natCast]; exact hc j u hu) rfl ?_
      refine And.intro rfl ?_
      refine storeNew (vs := [zi y.state, .slice Av y.calls.length cv, zi y.on, zi y.count]) (arr := #[zi 0, .slice none 0 0, zi 0, zi 0]) rfl hone ?_
      intro w5 hb5 n5 s5
      exact hK4 wl.heap.size _ _ ⟨rfl, rfl, rfl, rfl, trivial⟩ ⟨n5, rfl, by omega, hb5⟩
    rintro T w5 fr5 ⟨n5, hT, hTl, hb5⟩
    have c5 := cl.new n5
    have hTg : ¬ T = g := by have := cl.lt; omega
    have hTw : ¬ WS g vl T := by
      rintro (e | e)
      · exact hTg e
      · exact absurd (cl.own.lt _ e.symm).2 (by omega)
    -- its numbers
    refine seq_cut (σ := Value) (fun _ => [(1, .pointer (some ⟨M, 0, none⟩)), (4, .pointer (some ⟨g, 0, none⟩)), (7, .int .i64 (i : Int)), (8, .pointer (some ⟨T, 0, none⟩))]) (fun v' w' => Kv w5 g g vl w' v' (noteS tl 8 true [y.state, y.on, y.count])) ?_ ?_
    rotate_left
    · intro K4 hK4
      refine Exists.intro y.state (And.intro (cellB hb5 rfl) ?_)
      refine Exists.intro y.on (And.intro (cellB hb5 rfl) ?_)
      refine Exists.intro y.count (And.intro (cellB hb5 rfl) ?_)
      refine call_ (rnumbers1_ok g g vl tl [y.state, y.on, y.count] 3 w5 c5 rfl (fun z hz => by
        simp only [List.mem_cons, List.not_mem_nil, or_false] at hz
        rcases hz with rfl | rfl | rfl
        · exact f1
        · exact f2
        · exact f3) (by simp; omega)) ?_
      rintro e w6 ⟨rfl, v6, k6⟩
      refine ⟨_, rfl, ?_⟩
      exact hK4 v6 _ _ ⟨rfl, rfl, rfl, rfl, trivial⟩ k6
    rintro v6 w6 fr6 k6
    rw [noteS3] at k6
    have r1 := Wri.num (t := tl) Image.w8 (sign := true) (n := y.state) fun _ => f1
    have r2 := Wri.num (t := noteS tl 8 true [y.state]) Image.w8 (sign := true) (n := y.on) fun _ => f2
    have r3 := Wri.num (t := noteS (noteS tl 8 true [y.state]) 8 true [y.on]) Image.w8 (sign := true) (n := y.count) fun _ => f3
    generalize noteS tl 8 true [y.state] = y1 at k6 r1 r2 r3
    generalize noteS y1 8 true [y.on] = y2 at k6 r2 r3
    generalize noteS y2 8 true [y.count] = y3 at k6 r3
    have b1 := r1.1
    have b2 := r2.1
    have b3 := r3.1
    refine seq_cut (σ := Value × WT) (fun _ => [(1, .pointer (some ⟨M, 0, none⟩)), (4, .pointer (some ⟨g, 0, none⟩)), (7, .int .i64 (i : Int)), (8, .pointer (some ⟨T, 0, none⟩))]) (fun s w' => Kv w5 g g vl w' s.1 s.2 ∧ Wri (num 4 false Image.w4) 4 y3 (y.calls.length : Int) s.2) ?_ ?_
    rotate_left
    · intro K4 hK4
      have hb6 := k6.mod.blk hb5 hTw
      refine Exists.intro Av (Exists.intro y.calls.length (Exists.intro cv (And.intro (cellB hb6 rfl) ?_)))
      refine call_ (rmany_ok g g v6 y3 y.calls.length w6 k6.vw zv (by omega)) ?_
      rintro e w7 ⟨rfl, v7, t7, k7, wr7⟩
      refine ⟨_, rfl, ?_⟩
      exact hK4 (v7, t7) _ _ ⟨rfl, rfl, rfl, rfl, trivial⟩ ⟨k6.then k7, wr7⟩
    rintro ⟨v7, y4⟩ w7 fr7 ⟨k7, wr7⟩
    dsimp only at k7 wr7
    clear k6
    -- its calls
    refine seq_assign ?_
    refine den_loop (σ := Nat × Value × WT) (fun s => [(1, .pointer (some ⟨M, 0, none⟩)), (4, .pointer (some ⟨g, 0, none⟩)), (7, .int .i64 (i : Int)), (8, .pointer (some ⟨T, 0, none⟩)), (9, .int .i64 (s.1 : Int))])
      (fun f s wk => f + s.1 = y.calls.length ∧ Kv w5 g g vl wk s.2.1 s.2.2 ∧ WLst callF cCall y3 y.calls s.1 s.2.2) y.calls.length (0, v7, y4) ⟨rfl, rfl, rfl, rfl, rfl, trivial⟩ ⟨rfl, k7, WLst.start wr7⟩ ?_
    rintro f' ⟨j, vk, tk⟩ wk frk ⟨hfuel', kk, hw'⟩
    dsimp only at hfuel' kk hw'
    have hbk := kk.mod.blk hb5 hTw
    have ok5 : Mod (fun b => g ≤ b) wl wk := both n5.mod (c5.old kk.mod)
    refine seq_cut (σ := Unit) (fun _ => [(1, .pointer (some ⟨M, 0, none⟩)), (4, .pointer (some ⟨g, 0, none⟩)), (7, .int .i64 (i : Int)), (8, .pointer (some ⟨T, 0, none⟩)), (9, .int .i64 (j : Int))]) (fun _ w' => w' = wk ∧ j < y.calls.length) ?_ ?_
    rotate_left
    · intro K4 hK4
      refine Exists.intro Av (Exists.intro y.calls.length (Exists.intro cv (And.intro (cellB hbk rfl) ?_)))
      refine if_p (fun hltj => ?_) (fun hgej => ?_)
      · replace hltj : (j : Int) < (y.calls.length : Int) := hltj
        exact hK4 () _ _ ⟨rfl, rfl, rfl, rfl, rfl, trivial⟩ ⟨rfl, by omega⟩
      · replace hgej : ¬ (j : Int) < (y.calls.length : Int) := hgej
        obtain rfl : j = y.calls.length := by omega
        exact hK3 (vk, tk) _ _ ⟨rfl, rfl, rfl, trivial⟩ ⟨kk.vw, ok5, wri_thr r1 r2 r3 hw'.done⟩
    rintro _ wy2 fry2 ⟨hwy2, hj⟩
    obtain rfl := hwy2.symm
    have hltj : (j : Int) < (y.calls.length : Int) := by omega
    obtain ⟨f', rfl⟩ : ∃ f'', f' = f'' + 1 := ⟨f' - 1, by omega⟩
    have incj := incN hj zv
    have hcj : csum cCall (y.calls.take j) + cCall y.calls[j] ≤ csum cCall y.calls := by
      have h1 := csum_le cCall y.calls (j + 1)
      rw [List.take_succ_eq_append_getElem hj, csum_snoc] at h1
      exact h1
    have hwj := hw'.1
    obtain ⟨_, _, he, _, gz⟩ := (LRep.mod callOk (by decide) hv0 ok5).get callOk (by decide)
    cases he
    obtain ⟨a2, cz, ea2, hzz, hc2⟩ := gz j hj
    refine seq_cut (σ := Value × WT) (fun _ => [(1, .pointer (some ⟨M, 0, none⟩)), (4, .pointer (some ⟨g, 0, none⟩)), (7, .int .i64 (i : Int)), (8, .pointer (some ⟨T, 0, none⟩)), (9, .int .i64 (j : Int))]) (fun s w' => Kv w5 g g vl w' s.1 s.2 ∧ Wri callF (cCall y.calls[j]) tk y.calls[j] s.2) ?_ ?_
    · rintro ⟨v9, t9⟩ w9 fr9 ⟨k9, wr9⟩
      exact ⟨f', (j + 1, v9, t9), by omega, ⟨rfl, rfl, rfl, rfl, incj, trivial⟩, by dsimp only; omega, k9, hw'.step hj wr9⟩
    have hmem2 : y.calls[j] ∈ y.calls := List.getElem_mem hj
    generalize y.calls[j] = z at hzz hcj hmem2 ⊢
    intro K5 hK5
    refine block_ ?_
    obtain ⟨vv2, uu2, rfl, hvz, huz⟩ := hzz
    have hvz0 := hvz
    have huz0 := huz
    obtain ⟨Bv, bv, _, rfl, _⟩ := hvz
    obtain ⟨Dv, dv, _, rfl, _⟩ := huz
    have honec := callOk.one (w := wk) (S := fun b => g ≤ b) (x := z) ⟨_, _, rfl, hvz0, huz0⟩
    have hcz : cCall z = 40 + csum cVal z.locals + csum cVal z.stack := rfl
    obtain ⟨h1, h2, h3, h4, _, _⟩ := f4 z hmem2
    obtain ⟨kz1, kz2⟩ := hkh z hmem2
    refine seq_cut (σ := Nat) (fun X => [(1, .pointer (some ⟨M, 0, none⟩)), (4, .pointer (some ⟨g, 0, none⟩)), (7, .int .i64 (i : Int)), (8, .pointer (some ⟨T, 0, none⟩)), (9, .int .i64 (j : Int)), (10, .pointer (some ⟨X, 0, none⟩))]) (fun X w' => New wk w' ∧ X = wk.heap.size ∧ X < w'.heap.size ∧ w'.heap[X]? = some (.cells #[zi z.cl, zi z.me, zi z.at_, .slice Bv z.locals.length bv, .slice Dv z.stack.length dv, zi z.lock] 50 (0, 0))) ?_ ?_
    rotate_left
    · intro K4 hK4
      refine Exists.intro Av (Exists.intro y.calls.length (Exists.intro cv (And.intro (cellB hbk rfl) ?_)))
      refine And.intro (by omega) (And.intro hltj ?_)
      refine some_at ea2 ?_
      refine loadN_row (vs := [zi z.cl, zi z.me, zi z.at_, .slice Bv z.locals.length bv, .slice Dv z.stack.length dv, zi z.lock]) (fun j u hu => by rw [Int.toNat_natCast]; exact hc2 j u hu) rfl ?_
      refine And.intro rfl ?_
      refine storeNew (vs := [zi z.cl, zi z.me, zi z.at_, .slice Bv z.locals.length bv, .slice Dv z.stack.length dv, zi z.lock]) (arr := #[zi 0, zi 0, zi 0, .slice none 0 0, .slice none 0 0, zi 0]) rfl honec ?_
      intro w8 hb8 n8' s8
      exact hK4 wk.heap.size _ _ ⟨rfl, rfl, rfl, rfl, rfl, rfl, trivial⟩ ⟨n8', rfl, by omega, hb8⟩
    rintro X w8 fr8 ⟨n8', hX, hXl, hb8⟩
    have ck := kk.vw
    have c8 := ck.new n8'
    have hXg : ¬ X = g := by have := ck.lt; omega
    have hXw : ¬ WS g vk X := by
      rintro (e | e)
      · exact hXg e
      · exact absurd (ck.own.lt _ e.symm).2 (by omega)
    have kk8 := kk.new n8'
    refine seq_cut (σ := Value) (fun _ => [(1, .pointer (some ⟨M, 0, none⟩)), (4, .pointer (some ⟨g, 0, none⟩)), (7, .int .i64 (i : Int)), (8, .pointer (some ⟨T, 0, none⟩)), (9, .int .i64 (j : Int)), (10, .pointer (some ⟨X, 0, none⟩))]) (fun v' w' => Kv w8 g g vk w' v' (noteS tk 8 true [z.cl, z.me, z.at_, z.lock])) ?_ ?_
    rotate_left
    · intro K4 hK4
      refine Exists.intro z.cl (And.intro (cellB hb8 rfl) ?_)
      refine Exists.intro z.me (And.intro (cellB hb8 rfl) ?_)
      refine Exists.intro z.at_ (And.intro (cellB hb8 rfl) ?_)
      refine Exists.intro z.lock (And.intro (cellB hb8 rfl) ?_)
      refine call_ (rnumbers1_ok g g vk tk [z.cl, z.me, z.at_, z.lock] 4 w8 c8 rfl (fun q hq => by
        simp only [List.mem_cons, List.not_mem_nil, or_false] at hq
        rcases hq with rfl | rfl | rfl | rfl
        · exact h1
        · exact h2
        · exact h3
        · exact h4) (by simp; omega)) ?_
      rintro e w9 ⟨rfl, v9, k9⟩
      refine ⟨_, rfl, ?_⟩
      exact hK4 v9 _ _ ⟨rfl, rfl, rfl, rfl, rfl, rfl, trivial⟩ k9
    rintro v9 w9 fr9 k9
    rw [noteS4] at k9
    have s1 := Wri.num (t := tk) Image.w8 (sign := true) (n := z.cl) fun _ => h1
    have s2 := Wri.num (t := noteS tk 8 true [z.cl]) Image.w8 (sign := true) (n := z.me) fun _ => h2
    have s3 := Wri.num (t := noteS (noteS tk 8 true [z.cl]) 8 true [z.me]) Image.w8 (sign := true) (n := z.at_) fun _ => h3
    have s4 := Wri.num (t := noteS (noteS (noteS tk 8 true [z.cl]) 8 true [z.me]) 8 true [z.at_]) Image.w8 (sign := true) (n := z.lock) fun _ => h4
    generalize noteS tk 8 true [z.cl] = x1 at k9 s1 s2 s3 s4
    generalize noteS x1 8 true [z.me] = x2 at k9 s2 s3 s4
    generalize noteS x2 8 true [z.at_] = x3 at k9 s3 s4
    generalize noteS x3 8 true [z.lock] = x4 at k9 s4
    have d1 := s1.1
    have d2 := s2.1
    have d3 := s3.1
    have d4 := s4.1
    have okx : Mod (fun b => g ≤ b) wk w9 := both n8'.mod (c8.old k9.mod)
    have hb9 := k9.mod.blk hb8 hXw
    refine seq_cut (σ := Value × WT) (fun _ => [(1, .pointer (some ⟨M, 0, none⟩)), (4, .pointer (some ⟨g, 0, none⟩)), (7, .int .i64 (i : Int)), (8, .pointer (some ⟨T, 0, none⟩)), (9, .int .i64 (j : Int)), (10, .pointer (some ⟨X, 0, none⟩))]) (fun s w' => Kv w8 g g vk w' s.1 s.2 ∧ Wri valsF (4 + csum cVal z.locals) x4 z.locals s.2) ?_ ?_
    rotate_left
    · intro K4 hK4
      refine Exists.intro Bv (Exists.intro z.locals.length (Exists.intro bv (And.intro (cellB hb9 rfl) ?_)))
      refine call_ (rvalues_ok g g v9 x4 _ z.locals w9 k9.vw (LRep.mod valOk (by decide) hvz0 okx) kz1 (by omega)) ?_
      rintro e wa ⟨rfl, va, ta, ka, wra⟩
      refine ⟨_, rfl, ?_⟩
      exact hK4 (va, ta) _ _ ⟨rfl, rfl, rfl, rfl, rfl, rfl, trivial⟩ ⟨k9.then ka, wra⟩
    rintro ⟨va, x5⟩ wa fra ⟨ka, wra⟩
    dsimp only at ka wra
    have d5 := wra.1
    have okx2 : Mod (fun b => g ≤ b) wk wa := both n8'.mod (c8.old ka.mod)
    refine Exists.intro Dv (Exists.intro z.stack.length (Exists.intro dv (And.intro (cellB (ka.mod.blk hb8 hXw) rfl) ?_)))
    refine call_ (rvalues_ok g g va x5 _ z.stack wa ka.vw (LRep.mod valOk (by decide) huz0 okx2) kz2 (by omega)) ?_
    rintro e wb ⟨rfl, vb, tb, kb', wrb⟩
    refine ⟨_, rfl, ?_⟩
    exact hK5 (vb, tb) _ _ ⟨rfl, rfl, rfl, rfl, rfl, trivial⟩ ⟨kk8.then (ka.then kb'), wri_call s1 s2 s3 s4 wra wrb⟩
  rintro ⟨v12, t12⟩ w12 fr12 ⟨c12, o12, wr12⟩
  dsimp only at c12 wr12
  have p13 := wr12.1
  refine seq_cut (σ := Value × WT) (fun _ => [(1, .pointer (some ⟨M, 0, none⟩)), (4, .pointer (some ⟨g, 0, none⟩))]) (fun s w' => Vw w' g g s.1 s.2 ∧ Mod (fun b => g ≤ b) w2 w' ∧ Wri (num 4 false Image.w4) 4 t12 (m.mons.length : Int) s.2) ?_ ?_
  rotate_left
  · intro K hK
    have hMz := o12.blk hM2 hMg
    refine Exists.intro Am (Exists.intro m.mons.length (Exists.intro cm (And.intro (cellB hMz rfl) ?_)))
    refine call_ (rmany_ok g g v12 t12 m.mons.length w12 c12 nzm (by omega)) ?_
    rintro e wa ⟨rfl, va, ta, ka, wra⟩
    refine ⟨_, rfl, ?_⟩
    exact hK (va, ta) _ _ ⟨rfl, rfl, trivial⟩ ⟨ka.vw, both o12 (c12.old ka.mod), wra⟩
  rintro ⟨v13, t13⟩ w13 fr13 ⟨c13, o13, wr13⟩
  dsimp only at c13 wr13
  have p14 := wr13.1
  refine seq_cut (σ := Value × WT) (fun _ => [(1, .pointer (some ⟨M, 0, none⟩)), (4, .pointer (some ⟨g, 0, none⟩))]) (fun s w' => Vw w' g g s.1 s.2 ∧ Mod (fun b => g ≤ b) w2 w' ∧ Wri (list 4 Image.w4 monF) (4 + csum cMon m.mons) t12 m.mons s.2) ?_ ?_
  rotate_left
  · intro K hK
    refine seq_assign ?_
    refine den_loop (σ := Nat × Value × WT) (fun s => [(1, .pointer (some ⟨M, 0, none⟩)), (4, .pointer (some ⟨g, 0, none⟩)), (11, .int .i64 (s.1 : Int))])
      (fun f s wl => f + s.1 = m.mons.length ∧ Vw wl g g s.2.1 s.2.2 ∧ Mod (fun b => g ≤ b) w2 wl ∧ WLst monF cMon t12 m.mons s.1 s.2.2) m.mons.length (0, v13, t13) ⟨rfl, rfl, rfl, trivial⟩ ⟨rfl, c13, o13, WLst.start wr13⟩ ?_
    rintro f ⟨i, vl, tl⟩ wl frl ⟨hfuel, cl, ol, hw⟩
    dsimp only at hfuel cl hw
    have hMl := ol.blk hM2 hMg
    refine seq_cut (σ := Unit) (fun _ => [(1, .pointer (some ⟨M, 0, none⟩)), (4, .pointer (some ⟨g, 0, none⟩)), (11, .int .i64 (i : Int))]) (fun _ w' => w' = wl ∧ i < m.mons.length) ?_ ?_
    rotate_left
    · intro K2 hK2
      refine Exists.intro Am (Exists.intro m.mons.length (Exists.intro cm (And.intro (cellB hMl rfl) ?_)))
      refine if_p (fun hlt => ?_) (fun hge => ?_)
      · replace hlt : (i : Int) < (m.mons.length : Int) := hlt
        exact hK2 () _ _ ⟨rfl, rfl, rfl, trivial⟩ ⟨rfl, by omega⟩
      · replace hge : ¬ (i : Int) < (m.mons.length : Int) := hge
        obtain rfl : i = m.mons.length := by omega
        exact hK (vl, tl) _ _ ⟨rfl, rfl, trivial⟩ ⟨cl, ol, hw.done⟩
    rintro _ wy fry ⟨hwy, hi⟩
    obtain rfl := hwy.symm
    have hlt : (i : Int) < (m.mons.length : Int) := by omega
    obtain ⟨f, rfl⟩ : ∃ f', f = f' + 1 := ⟨f - 1, by omega⟩
    have inc := incN hi nzm
    have hcs : csum cMon (m.mons.take i) + cMon m.mons[i] ≤ csum cMon m.mons := by
      have h1 := csum_le cMon m.mons (i + 1)
      rw [List.take_succ_eq_append_getElem hi, csum_snoc] at h1
      exact h1
    have hw1 := hw.1
    obtain ⟨_, _, he, _, gx⟩ := (LRep.mod monOk (by decide) (LRep.mod monOk (by decide) lm0 n2.mod) ol).get monOk (by decide)
    cases he
    obtain ⟨a, cx, ea, hxx, hc⟩ := gx i hi
    refine seq_cut (σ := Value × WT) (fun _ => [(1, .pointer (some ⟨M, 0, none⟩)), (4, .pointer (some ⟨g, 0, none⟩)), (11, .int .i64 (i : Int))]) (fun s w' => Vw w' g g s.1 s.2 ∧ Mod (fun b => g ≤ b) wl w' ∧ Wri monF (cMon m.mons[i]) tl m.mons[i] s.2) ?_ ?_
    · rintro ⟨v9, t9⟩ w9 fr9 ⟨c9, o9, wr9⟩
      exact ⟨f, (i + 1, v9, t9), by omega, ⟨rfl, rfl, inc, trivial⟩, by dsimp only; omega, c9, both ol o9, hw.step hi wr9⟩
    have hmem : m.mons[i] ∈ m.mons := List.getElem_mem hi
    generalize m.mons[i] = y at hxx hcs hmem ⊢
    intro K3 hK3
    refine block_ ?_
    obtain rfl := hxx
    obtain ⟨f1, f2, f3⟩ := fm y hmem
    have hcm : cMon y = 24 := rfl
    refine draw_ (w := wl) ok (.q 0 (.q 1 (.q 2 (.q 3 (.q 4 (.q 5 (.q 6 (.q 7 (.q 8 (.q 9 (.q 10 (.q 11 (.q 12 (.q 13 (.q 14 (.q 15 (.q 16 (.q 17 (.q 18 (.e 19 (.e 20 .done))))))))))))))))))))) [20] (New wl) (by kernel_rfl) (by kernel_rfl) (by kernel_rfl) (by kernel_rfl) (by kernel_rfl) (New.drew _) ?_
    refine Exists.intro Am (Exists.intro m.mons.length (Exists.intro cm (And.intro (fun w'' hw => cellB (hw.blk hMl) rfl) ?_)))
    refine And.intro (by omega) (And.intro hlt ?_)
    refine some_at ea ?_
    refine Exists.intro y.ob (And.intro (fun w'' hw => by rw [Int.toNat_natCast]; exact hw.cell (hc 0 _ rfl)) ?_)
    refine Exists.intro Am (Exists.intro m.mons.length (Exists.intro cm (And.intro (fun w'' hw => cellB (hw.blk hMl) rfl) ?_)))
    refine And.intro (by omega) (And.intro hlt ?_)
    refine some_at ea ?_
    refine Exists.intro y.owner (And.intro (fun w'' hw => by rw [Int.toNat_natCast]; exact hw.cell (hc 1 _ rfl)) ?_)
    refine Exists.intro Am (Exists.intro m.mons.length (Exists.intro cm (And.intro (fun w'' hw => cellB (hw.blk hMl) rfl) ?_)))
    refine And.intro (by omega) (And.intro hlt ?_)
    refine some_at ea ?_
    refine Exists.intro y.count (And.intro (fun w'' hw => by rw [Int.toNat_natCast]; exact hw.cell (hc 2 _ rfl)) ?_)
    have nd := New.drew wl
    refine Exists.intro (New wl) (And.intro (fun _ h => h) (And.intro (nd.trans (New.alloc _ _)) ?_))
    refine call_ (rnumbers1_ok g g vl tl [y.ob, y.owner, y.count] 3 wl.drew (cl.new nd) rfl (fun z hz => by
      simp only [List.mem_cons, List.not_mem_nil, or_false] at hz
      rcases hz with rfl | rfl | rfl
      · exact f1
      · exact f2
      · exact f3) (by simp; omega)) ?_
    rintro e w6 ⟨rfl, v6, k6⟩
    refine ⟨_, rfl, ?_⟩
    have o6 : Mod (fun b => g ≤ b) wl w6 := both nd.mod ((cl.new nd).old k6.mod)
    rw [noteS3] at k6
    have r1 := Wri.num (t := tl) Image.w8 (sign := true) (n := y.ob) fun _ => f1
    have r2 := Wri.num (t := noteS tl 8 true [y.ob]) Image.w8 (sign := true) (n := y.owner) fun _ => f2
    have r3 := Wri.num (t := noteS (noteS tl 8 true [y.ob]) 8 true [y.owner]) Image.w8 (sign := true) (n := y.count) fun _ => f3
    exact hK3 (v6, _) _ _ ⟨rfl, rfl, rfl, trivial⟩ ⟨k6.vw, o6, wri_mon r1 r2 r3⟩
  rintro ⟨v14, t14⟩ w14 fr14 ⟨c14, o14, wr14⟩
  dsimp only at c14 wr14
  have p15 := wr14.1
  have hall := wri_mach_any q1 q2 q3 q4 wr5 wr7 wr8 wr10 wr12 wr14
  have hby := wri_bytes_any hall
  have nw : New w w14 := Mod.trans n2 o14 fun b hb e => by omega
  have hb := c14.blk
  obtain ⟨Az, cz, rfl, h5, h6, rowz, _⟩ := own_slice c14.own
  refine seq_cut (σ := Unit) (fun _ => [(1, .pointer (some ⟨M, 0, none⟩)), (4, .pointer (some ⟨g, 0, none⟩))]) (fun _ w' => w' = w14 ∧ t14.2 = false) ?_ ?_
  rotate_left
  · intro K hK
    refine Exists.intro t14.2 (And.intro (cellB hb rfl) ?_)
    refine if_ (fun hbad => ?_) (fun hbad => ?_)
    · exact bres_bad (hby.1 hbad) nw
    · exact hK () _ _ ⟨rfl, rfl, trivial⟩ ⟨rfl, hbad⟩
  rintro _ wy fry ⟨hwy, hgood⟩
  obtain rfl := hwy.symm
  refine seq_cut (σ := Unit) (fun _ => [(1, .pointer (some ⟨M, 0, none⟩)), (4, .pointer (some ⟨g, 0, none⟩))]) (fun _ w' => w' = w14 ∧ t14.1.length ≤ most) ?_ ?_
  rotate_left
  · intro K hK
    refine Exists.intro Az (Exists.intro t14.1.length (Exists.intro cz (And.intro (cellB hb rfl) ?_)))
    refine call_ (rPages_ok t14.1.length w14 (by omega)) ?_
    rintro e wb ⟨rfl, hwb⟩
    obtain rfl := hwb.symm
    refine ⟨_, rfl, ?_⟩
    refine if_p (fun hp => ?_) (fun hp => ?_)
    · replace hp : (4096 : Int) < (pagesOf t14.1.length : Int) := hp
      exact bres_bad (hby.2.1 hgood ((pages_most _).1 (by omega))) nw
    · replace hp : ¬ (4096 : Int) < (pagesOf t14.1.length : Int) := hp
      refine hK () _ _ ⟨rfl, rfl, trivial⟩ ⟨rfl, Nat.le_of_not_lt fun hc => ?_⟩
      have := (pages_most _).2 hc
      omega
  rintro _ wz frz ⟨hwz, hle⟩
  obtain rfl := hwz.symm
  obtain ⟨he, hbs⟩ := hby.2.2 hgood hle
  refine Exists.intro Az (Exists.intro t14.1.length (Exists.intro cz (And.intro (cellB hb rfl) ?_)))
  rw [← hbs] at rowz h5
  exact ⟨Az, cz, by rw [he, hbs]; rfl, rowz, h5, h6, nw⟩

end Go.Proofs.Yteanhakkceancaa.Image
