/- The package image, walked: a machine told. Printed by genwrite.py. -/
import Derived.Test.YteanhakkceancaaIWrite2
import Derived.Test.YteanhakkceancaaIWalk3
namespace Go.Proofs.Yteanhakkceancaa.Image
open Go Go.Proofs.Yteanhakkceancaa Go.Proofs.Yteanhakkceancaa.Eng Go.Proofs Go.Proofs.Yteanhakkceancaa.Word Go.Proofs.Yteanhakkceancaa.Fmt
open Go.Proofs.Yteanhakkceancaa.Pool (both own_low)
set_option maxRecDepth 10000

/-- What a telling of a machine leaves. -/
def BRes (w : World) (m : Mach) (e : Ending) (w' : World) : Prop := ∃ A c, e = .returned (.tuple #[.slice A (bytesOf m).length c, .int .i64 (errOf m)]) ∧ Row w' A (bvs (bytesOf m)) ∧ (bytesOf m).length ≤ c ∧ c ≤ 9223372036854775807 ∧ New w w'
theorem bres_bad {w w' : World} {m : Mach} {er : Int} (h : errOf m = er ∧ bytesOf m = []) (n : New w w') : BRes w m (.returned (.tuple #[.slice none 0 0, .int .i64 er])) w' :=
  ⟨none, 0, by rw [h.1, h.2]; rfl, by rw [h.2]; exact Row.nil _ _, by rw [h.2]; exact Nat.le_refl _, by omega, n⟩
theorem Bytes_ok (cs0 : List Value) (m : Mach) (S : Nat → Prop) (w : World) (hx : machR w S cs0 m) (hf : fMach m) (hm : cMach m ≤ 1000000000) :
    Calls Try.prog 8 #[.agg cs0.toArray] w (BRes w m) := by
  replace hx := machOk.weak (S' := fun b => w.heap.size + 1 ≤ b) hx fun b hb e => by omega
  obtain ⟨_, _, _, _, _, _, rfl, lb, ls, lt, lm, li, lo⟩ := hx
  obtain ⟨fa, fr, fg, fs, fi, fo, ft, fb, fh, fm⟩ := hf
  have hcost : cMach m = 56 + csum cInt m.ins + csum cInt m.outs + csum cVal m.statics + csum cObj m.objs + csum cThr m.thrs + csum cMon m.mons := rfl
  have lb0 := lb
  obtain ⟨Ab, cb, _, rfl, _⟩ := lb
  have ls0 := ls
  obtain ⟨As, cs, _, rfl, _⟩ := ls
  have lt0 := lt
  obtain ⟨At, ct, _, rfl, _⟩ := lt
  have lm0 := lm
  obtain ⟨Am, cm, _, rfl, _⟩ := lm
  have li0 := li
  obtain ⟨Ai, ci, _, rfl, _⟩ := li
  have lo0 := lo
  obtain ⟨Ao, co, _, rfl, _⟩ := lo
  refine enter ok Try.func8 rfl rfl rfl ?_
  refine seq_cut (σ := Unit) (fun _ => [(1, .pointer (some ⟨w.heap.size, 0, none⟩))]) (fun _ w' => New w w' ∧ w'.heap.size = w.heap.size + 1 ∧ w'.heap[w.heap.size]? = some (.cells #[zi m.status, .slice Ab m.objs.length cb, .slice As m.statics.length cs, .slice At m.thrs.length ct, .slice Am m.mons.length cm, zi m.read, .slice Ai m.ins.length ci, .slice Ao m.outs.length co, zi m.gone, zi m.steps] 28 (0, 0))) ?_ ?_
  rotate_left
  · intro K hK
    exact hK () _ _ ⟨rfl, trivial⟩ ⟨New.alloc w _, by simp, heap_alloc_new w (.cells #[zi m.status, .slice Ab m.objs.length cb, .slice As m.statics.length cs, .slice At m.thrs.length ct, .slice Am m.mons.length cm, zi m.read, .slice Ai m.ins.length ci, .slice Ao m.outs.length co, zi m.gone, zi m.steps] 28)⟩
  rintro _ w1 fr1 ⟨n1, z1, hM1⟩
  refine seq_cut (σ := Unit) (fun _ => [(1, .pointer (some ⟨w.heap.size, 0, none⟩)), (4, .pointer (some ⟨w.heap.size + 2, 0, none⟩))]) (fun _ w' => Wi w' (w.heap.size + 1) (w.heap.size + 2) (w.heap.size + 1) (.slice none 0 0) ([], false) ∧ New w w' ∧ w'.heap[w.heap.size]? = some (.cells #[zi m.status, .slice Ab m.objs.length cb, .slice As m.statics.length cs, .slice At m.thrs.length ct, .slice Am m.mons.length cm, zi m.read, .slice Ai m.ins.length ci, .slice Ao m.outs.length co, zi m.gone, zi m.steps] 28 (0, 0))) ?_ ?_
  rotate_left
  · intro K hK
    refine call_ (Make_ok w1) ?_
    rintro e w2 ⟨rfl, wr2, n2, s2⟩
    refine ⟨_, rfl, ?_⟩
    rw [z1] at wr2 s2
    have n3 := New.alloc w2 (.cells #[.pointer (some ⟨w.heap.size + 1, 0, none⟩), .bool false] 55)
    have hb3 := heap_alloc_new w2 (.cells #[.pointer (some ⟨w.heap.size + 1, 0, none⟩), .bool false] 55)
    rw [s2] at hb3
    have e1 : (Value.pointer (some ⟨w1.heap.size, 0, none⟩)) = .pointer (some ⟨w.heap.size + 1, 0, none⟩) := by rw [z1]
    rw [e1]
    exact hK () _ _ ⟨rfl, (show Value.pointer (some ⟨w2.heap.size, 0, none⟩) = _ by rw [s2]), trivial⟩ ⟨⟨hb3, wr2.new n3, by omega, (fun h => by cases h), by omega, Nat.le_refl _⟩, (n1.trans n2).trans n3, (n2.trans n3).blk hM1⟩
  rintro _ w2 fr2 ⟨c2, n2, hM2⟩
  obtain ⟨h, hh⟩ : ∃ h, h = w.heap.size + 2 := ⟨_, rfl⟩
  obtain ⟨g, hg⟩ : ∃ g, g = w.heap.size + 1 := ⟨_, rfl⟩
  obtain ⟨base, hbase⟩ : ∃ base, base = w.heap.size + 1 := ⟨_, rfl⟩
  rw [← hh, ← hg] at c2
  rw [← hg] at lb0 ls0 lt0 lm0 li0 lo0
  rw [← hh]
  have hMb : ¬ g ≤ w.heap.size := by omega
  -- the numbers
  refine seq_cut (σ := Value) (fun _ => [(1, .pointer (some ⟨w.heap.size, 0, none⟩)), (4, .pointer (some ⟨h, 0, none⟩))]) (fun v' w' => Ki w2 g h g (.slice none 0 0) w' v' (noteS ([], false) 8 true [m.status, m.read, m.gone, m.steps])) ?_ ?_
  rotate_left
  · intro K hK
    refine Exists.intro m.status (And.intro (cellB hM2 rfl) ?_)
    refine Exists.intro m.read (And.intro (cellB hM2 rfl) ?_)
    refine Exists.intro m.gone (And.intro (cellB hM2 rfl) ?_)
    refine Exists.intro m.steps (And.intro (cellB hM2 rfl) ?_)
    refine call_ (numbers1_ok g h g (.slice none 0 0) ([], false) [m.status, m.read, m.gone, m.steps] 4 w2 c2 rfl (by simp)) ?_
    rintro e w3 ⟨rfl, v3, k3⟩
    refine ⟨_, rfl, ?_⟩
    exact hK v3 _ _ ⟨rfl, rfl, trivial⟩ k3
  rintro v3 w3 fr3 k3
  rw [noteS4] at k3
  have q1 := Wri.num (t := ([], false)) w8 (sign := true) (n := m.status) fun _ => fa
  have q2 := Wri.num (t := noteS ([], false) 8 true [m.status]) w8 (sign := true) (n := m.read) fun _ => fr
  have q3 := Wri.num (t := noteS (noteS ([], false) 8 true [m.status]) 8 true [m.read]) w8 (sign := true) (n := m.gone) fun _ => fg
  have q4 := Wri.num (t := noteS (noteS (noteS ([], false) 8 true [m.status]) 8 true [m.read]) 8 true [m.gone]) w8 (sign := true) (n := m.steps) fun _ => fs
  generalize noteS ([], false) 8 true [m.status] = u1 at k3 q1 q2 q3 q4
  generalize noteS u1 8 true [m.read] = u2 at k3 q2 q3 q4
  generalize noteS u2 8 true [m.gone] = u3 at k3 q3 q4
  generalize noteS u3 8 true [m.steps] = t3 at k3 q4
  have p1 := q1.1
  have p2 := q2.1
  have p3 := q3.1
  have p4 := q4.1
  simp only [List.length_nil] at p1
  refine seq_cut (σ := Value × WT) (fun _ => [(1, .pointer (some ⟨w.heap.size, 0, none⟩)), (4, .pointer (some ⟨h, 0, none⟩))]) (fun s w' => Ki w2 g h g (.slice none 0 0) w' s.1 s.2 ∧ Wri (list 4 Image.w4 n8) (4 + csum cInt m.ins) t3 m.ins s.2) ?_ ?_
  rotate_left
  · intro K hK
    have hMz := (k3.old c2).blk hM2 hMb
    refine Exists.intro Ai (Exists.intro m.ins.length (Exists.intro ci (And.intro (cellB hMz rfl) ?_)))
    refine call_ (list_int g h g v3 t3 _ m.ins w3 k3.wi (LRep.mod intOk (by decide) (LRep.mod intOk (by decide) li0 n2.mod) (k3.old c2)) fi (by omega)) ?_
    rintro e wa ⟨rfl, va, ta, ka, wra⟩
    refine ⟨_, rfl, ?_⟩
    exact hK (va, ta) _ _ ⟨rfl, rfl, trivial⟩ ⟨k3.then ka, wra⟩
  rintro ⟨v4, t4⟩ w4 fr4 ⟨k4, wr4⟩
  dsimp only at k4 wr4
  have p5 := wr4.1
  refine seq_cut (σ := Value × WT) (fun _ => [(1, .pointer (some ⟨w.heap.size, 0, none⟩)), (4, .pointer (some ⟨h, 0, none⟩))]) (fun s w' => Ki w2 g h g (.slice none 0 0) w' s.1 s.2 ∧ Wri (list 4 Image.w4 n8) (4 + csum cInt m.outs) t4 m.outs s.2) ?_ ?_
  rotate_left
  · intro K hK
    have hMz := (k4.old c2).blk hM2 hMb
    refine Exists.intro Ao (Exists.intro m.outs.length (Exists.intro co (And.intro (cellB hMz rfl) ?_)))
    refine call_ (list_int g h g v4 t4 _ m.outs w4 k4.wi (LRep.mod intOk (by decide) (LRep.mod intOk (by decide) lo0 n2.mod) (k4.old c2)) fo (by omega)) ?_
    rintro e wa ⟨rfl, va, ta, ka, wra⟩
    refine ⟨_, rfl, ?_⟩
    exact hK (va, ta) _ _ ⟨rfl, rfl, trivial⟩ ⟨k4.then ka, wra⟩
  rintro ⟨v5, t5⟩ w5 fr5 ⟨k5, wr5⟩
  dsimp only at k5 wr5
  have p6 := wr5.1
  refine seq_cut (σ := Value × WT) (fun _ => [(1, .pointer (some ⟨w.heap.size, 0, none⟩)), (4, .pointer (some ⟨h, 0, none⟩))]) (fun s w' => Ki w2 g h g (.slice none 0 0) w' s.1 s.2 ∧ Wri (list 4 Image.w4 valF) (4 + csum cVal m.statics) t5 m.statics s.2) ?_ ?_
  rotate_left
  · intro K hK
    have hMz := (k5.old c2).blk hM2 hMb
    refine Exists.intro As (Exists.intro m.statics.length (Exists.intro cs (And.intro (cellB hMz rfl) ?_)))
    refine call_ (list_val g h g v5 t5 _ m.statics w5 k5.wi (LRep.mod valOk (by decide) (LRep.mod valOk (by decide) ls0 n2.mod) (k5.old c2)) ft (by omega)) ?_
    rintro e wa ⟨rfl, va, ta, ka, wra⟩
    refine ⟨_, rfl, ?_⟩
    exact hK (va, ta) _ _ ⟨rfl, rfl, trivial⟩ ⟨k5.then ka, wra⟩
  rintro ⟨v6, t6⟩ w6 fr6 ⟨k6, wr6⟩
  dsimp only at k6 wr6
  have p7 := wr6.1
  refine seq_cut (σ := Value × WT) (fun _ => [(1, .pointer (some ⟨w.heap.size, 0, none⟩)), (4, .pointer (some ⟨h, 0, none⟩))]) (fun s w' => Ki w2 g h g (.slice none 0 0) w' s.1 s.2 ∧ Wri (list 4 Image.w4 objF) (4 + csum cObj m.objs) t6 m.objs s.2) ?_ ?_
  rotate_left
  · intro K hK
    have hMz := (k6.old c2).blk hM2 hMb
    refine Exists.intro Ab (Exists.intro m.objs.length (Exists.intro cb (And.intro (cellB hMz rfl) ?_)))
    refine call_ (list_obj g h g v6 t6 _ m.objs w6 k6.wi (LRep.mod objOk (by decide) (LRep.mod objOk (by decide) lb0 n2.mod) (k6.old c2)) fb (by omega)) ?_
    rintro e wa ⟨rfl, va, ta, ka, wra⟩
    refine ⟨_, rfl, ?_⟩
    exact hK (va, ta) _ _ ⟨rfl, rfl, trivial⟩ ⟨k6.then ka, wra⟩
  rintro ⟨v7, t7⟩ w7 fr7 ⟨k7, wr7⟩
  dsimp only at k7 wr7
  have p8 := wr7.1
  refine seq_cut (σ := Value × WT) (fun _ => [(1, .pointer (some ⟨w.heap.size, 0, none⟩)), (4, .pointer (some ⟨h, 0, none⟩))]) (fun s w' => Ki w2 g h g (.slice none 0 0) w' s.1 s.2 ∧ Wri (list 4 Image.w4 thrF) (4 + csum cThr m.thrs) t7 m.thrs s.2) ?_ ?_
  rotate_left
  · intro K hK
    have hMz := (k7.old c2).blk hM2 hMb
    refine Exists.intro At (Exists.intro m.thrs.length (Exists.intro ct (And.intro (cellB hMz rfl) ?_)))
    refine call_ (list_thr g h g v7 t7 _ m.thrs w7 k7.wi (LRep.mod thrOk (by decide) (LRep.mod thrOk (by decide) lt0 n2.mod) (k7.old c2)) fh (by omega)) ?_
    rintro e wa ⟨rfl, va, ta, ka, wra⟩
    refine ⟨_, rfl, ?_⟩
    exact hK (va, ta) _ _ ⟨rfl, rfl, trivial⟩ ⟨k7.then ka, wra⟩
  rintro ⟨v8, t8⟩ w8 fr8 ⟨k8, wr8⟩
  dsimp only at k8 wr8
  have p9 := wr8.1
  refine seq_cut (σ := Value × WT) (fun _ => [(1, .pointer (some ⟨w.heap.size, 0, none⟩)), (4, .pointer (some ⟨h, 0, none⟩))]) (fun s w' => Ki w2 g h g (.slice none 0 0) w' s.1 s.2 ∧ Wri (list 4 Image.w4 monF) (4 + csum cMon m.mons) t8 m.mons s.2) ?_ ?_
  rotate_left
  · intro K hK
    have hMz := (k8.old c2).blk hM2 hMb
    refine Exists.intro Am (Exists.intro m.mons.length (Exists.intro cm (And.intro (cellB hMz rfl) ?_)))
    refine call_ (list_mon g h g v8 t8 _ m.mons w8 k8.wi (LRep.mod monOk (by decide) (LRep.mod monOk (by decide) lm0 n2.mod) (k8.old c2)) fm (by omega)) ?_
    rintro e wa ⟨rfl, va, ta, ka, wra⟩
    refine ⟨_, rfl, ?_⟩
    exact hK (va, ta) _ _ ⟨rfl, rfl, trivial⟩ ⟨k8.then ka, wra⟩
  rintro ⟨v9, t9⟩ w9 fr9 ⟨k9, wr9⟩
  dsimp only at k9 wr9
  have p10 := wr9.1
  have hall := wri_mach q1 q2 q3 q4 wr4 wr5 wr6 wr7 wr8 wr9
  have hby := wri_bytes hall
  have hlen := hall.1
  simp only [List.length_nil] at hlen
  have nw : New w w9 := Mod.trans n2 (k9.old c2) fun b hb e => by omega
  -- is it told?
  refine seq_cut (σ := Unit) (fun _ => [(1, .pointer (some ⟨w.heap.size, 0, none⟩)), (4, .pointer (some ⟨h, 0, none⟩))]) (fun _ w' => w' = w9 ∧ t9.2 = false ∧ t9.1.length ≤ most) ?_ ?_
  rotate_left
  · intro K hK
    refine Exists.intro t9.2 (And.intro (cellB k9.wi.blk rfl) ?_)
    refine if_ (fun hb => ?_) (fun hb => ?_)
    · exact bres_bad (hby.1 hb) nw
    refine Exists.intro (some ⟨g, 0, none⟩) (And.intro (cellB k9.wi.blk rfl) ?_)
    refine call_ (Len_ok g g v9 t9.1 w9 k9.wi.wr) ?_
    rintro e wa ⟨rfl, hwa⟩
    obtain rfl := hwa.symm
    refine ⟨_, rfl, ?_⟩
    refine call_ (Pages_ok t9.1.length w9 (by omega)) ?_
    rintro e wb ⟨rfl, hwb⟩
    obtain rfl := hwb.symm
    refine ⟨_, rfl, ?_⟩
    refine if_p (fun hp => ?_) (fun hp => ?_)
    · replace hp : (4096 : Int) < (pagesOf t9.1.length : Int) := hp
      exact bres_bad (hby.2.1 hb ((pages_most _).1 (by omega))) nw
    · replace hp : ¬ (4096 : Int) < (pagesOf t9.1.length : Int) := hp
      refine hK () _ _ ⟨rfl, rfl, trivial⟩ ⟨rfl, hb, Nat.le_of_not_lt fun hc => ?_⟩
      have := (pages_most _).2 hc
      omega
  rintro _ wy fry ⟨hwy, hb, hle⟩
  obtain rfl := hwy.symm
  obtain ⟨he, hbs⟩ := hby.2.2 hb hle
  refine Exists.intro (some ⟨g, 0, none⟩) (And.intro (cellB k9.wi.blk rfl) ?_)
  refine call_ (All_ok g g v9 t9.1 w9 k9.wi.wr (by omega)) ?_
  rintro e wa ⟨u, rfl, owna, na⟩
  obtain ⟨Aa, ca, rfl, h5, h6, rowa, _⟩ := own_slice owna
  refine ⟨_, rfl, ?_⟩
  rw [← hbs] at rowa h5
  exact ⟨Aa, ca, by rw [he, hbs]; rfl, rowa, h5, h6, nw.trans na⟩

end Go.Proofs.Yteanhakkceancaa.Image
