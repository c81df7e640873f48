/- The package image, walked: objects, calls, threads, monitors written, and lists of them. Printed by genwrite.py. -/
import Derived.Test.YteanhakkceancaaIWrite1
import Derived.Test.YteanhakkceancaaStr
namespace Go.Proofs.Yteanhakkceancaa.Image
open Go Go.Proofs.Yteanhakkceancaa Go.Proofs.Yteanhakkceancaa.Eng Go.Proofs Go.Proofs.Yteanhakkceancaa.Word Go.Proofs.Yteanhakkceancaa.Fmt
open Go.Proofs.Yteanhakkceancaa.Pool (both own_low)
set_option maxRecDepth 10000
theorem Ki.loc {w w1 w2 : World} {base h g : Nat} {v v2 : Value} {t t2 : WT} (c : Wi w base h g v t) (hz : w.heap.size < w1.heap.size) (k : Ki w1 base h g v w2 v2 t2) : ¬ WH h g v2 w.heap.size := by
  have := c.lt
  rintro ((e | e) | e)
  · omega
  · rcases k.st _ e.symm with e | e
    · exact absurd (c.wr.vlt e).2 (by omega)
    · omega
  · omega
theorem plan_conv {P : Program} {T : Tab} {F : FuncId → Bool} {ops : Array Oper} {C : World → Prop} {tl : Nat → Bool} {Q : Fr → World → Prop} {i : Nat} {p : Plan} {fr : Fr} {w : World} {o : Oper} {src t : TypeId} {x : Operand} {ba : ByteArray} (hi : ops.toList[i]? = some o) (hg : o.guard = none) (ho : o.op = .convert src t x) (hx : ev fr x = .string ba)
    (h : raw P o fr w fun fr w => (match tl i with
      | true => evPlan P T F ops C tl Q p fr w
      | false => ∃ C' : World → Prop, (∀ w, C' w → C w) ∧ C' w ∧ evPlan P T F ops C' tl Q p fr w)) : evPlan P T F ops C tl Q (.e i p) fr w := by
  have hr : isRaw o = false := by
    unfold isRaw
    rw [ho]
  unfold evPlan
  rw [hi]
  simp only
  unfold guardF
  rw [hg]
  simp only
  unfold markRaw
  rw [hr]
  simp only
  unfold evOp evPure
  simp only [ho]
  unfold evStrOf
  rw [hx]
  exact h
theorem size_str (d : List UInt8) : (ByteArray.mk d.toArray).size = d.length := by simp [ByteArray.size]
theorem noteS3 (t : WT) (a b c : Int) : noteS t 8 true [a, b, c] = noteS (noteS (noteS t 8 true [a]) 8 true [b]) 8 true [c] := by
  rw [show [a, b, c] = ([a] ++ [b]) ++ [c] from rfl, noteS_snoc, noteS_snoc]
theorem noteS4 (t : WT) (a b c d : Int) : noteS t 8 true [a, b, c, d] = noteS (noteS (noteS (noteS t 8 true [a]) 8 true [b]) 8 true [c]) 8 true [d] := by
  rw [show [a, b, c, d] = (([a] ++ [b]) ++ [c]) ++ [d] from rfl, noteS_snoc, noteS_snoc, noteS_snoc]
theorem wobject_ok (base h g : Nat) (v : Value) (t : WT) (cs : List Value) (x : Obj) (w : World) (c : Wi w base h g v t) (hx : objR w (fun b => base ≤ b) cs x) (hf : fObj x) (hm : t.1.length + cObj x ≤ 1000000000) :
    Calls Try.prog 24 #[.pointer (some ⟨h, 0, none⟩), .agg cs.toArray] w fun e w' => e = .returned (.tuple #[]) ∧ ∃ v' t', Ki w base h g v w' v' t' ∧ Wri objF (cObj x) t x t' := by
  obtain ⟨vw, rfl, lw⟩ := hx
  have lw0 := lw
  obtain ⟨B, b, _, rfl, _⟩ := lw
  have hcost : cObj x = 261 + csum cVal x.words := rfl
  refine enter ok Try.func24 rfl rfl rfl ?_
  refine seq_cut (σ := Unit) (fun _ => [(0, .pointer (some ⟨h, 0, none⟩)), (3, .pointer (some ⟨w.heap.size, 0, none⟩))]) (fun _ w' => New w w' ∧ w'.heap[w.heap.size]? = some (.cells #[.string ⟨x.ty.toArray⟩, .slice B x.words.length b] 45 (0, 0)) ∧ w.heap.size < w'.heap.size) ?_ ?_
  rotate_left
  · intro K hK
    have z0 : w.heap.size < (w.alloc (.cells #[.string ⟨x.ty.toArray⟩, .slice B x.words.length b] 45)).heap.size := by simp
    exact hK () _ _ ⟨rfl, rfl, trivial⟩ ⟨New.alloc w _, heap_alloc_new w (.cells #[.string ⟨x.ty.toArray⟩, .slice B x.words.length b] 45), z0⟩
  rintro _ w1 fr1 ⟨n1, hX1, z1⟩
  have c1 := c.new n1
  have hXh := c.hi (Nat.le_refl w.heap.size)
  have K1 : Ki w base h g v w1 v t := (Ki.refl c).new n1
  have keep : ∀ {w' : World} {v' : Value} {t' : WT}, Ki w base h g v w' v' t' → ¬ WH h g v' w.heap.size → True := fun _ _ => trivial
  clear keep
  -- how long the text is
  refine seq_cut (σ := Unit) (fun _ => [(0, .pointer (some ⟨h, 0, none⟩)), (3, .pointer (some ⟨w.heap.size, 0, none⟩))]) (fun _ w' => w' = w1 ∧ x.ty.length ≤ 255) ?_ ?_
  rotate_left
  · intro K hK
    refine Exists.intro (⟨x.ty.toArray⟩ : ByteArray) (And.intro (cellB hX1 rfl) ?_)
    refine if_p (fun hl => ?_) (fun hl => ?_)
    · replace hl : (255 : Int) < ((ByteArray.mk x.ty.toArray).size : Int) := hl
      rw [size_str] at hl
      have hb1 := c1.blk
      refine And.intro ⟨_, cellB hb1 rfl⟩ (And.intro (fzB hb1 _) (force_ ?_))
      refine stK hb1 (show (1 : Nat) < 2 by decide) ?_
      intro w2 hb2 m2 s2
      exact ⟨rfl, v, (t.1, true), K1.then (c1.set m2 hb2), wri_obj_bad (by omega)⟩
    · replace hl : ¬ (255 : Int) < ((ByteArray.mk x.ty.toArray).size : Int) := hl
      rw [size_str] at hl
      exact hK () _ _ ⟨rfl, rfl, trivial⟩ ⟨rfl, by omega⟩
  rintro _ wy fry ⟨hwy, hlen⟩
  obtain rfl := hwy.symm
  refine seq_cut (σ := Value) (fun _ => [(0, .pointer (some ⟨h, 0, none⟩)), (3, .pointer (some ⟨w.heap.size, 0, none⟩))]) (fun v' w' => Ki w1 base h g v w' v' (noteS t 2 false [(x.ty.length : Int)]) ∧ w'.heap[w.heap.size]? = some (.cells #[.string ⟨x.ty.toArray⟩, .slice B x.words.length b] 45 (0, 0))) ?_ ?_
  rotate_left
  · intro K hK
    refine draw_ (w := w1) ok (.q 0 (.q 1 (.q 2 (.q 3 (.q 4 (.q 5 (.q 6 (.q 7 (.e 8 (.e 9 (.e 10 .done))))))))))) [10] (fun w'' : World => w''.heap[h]? = some (.cells #[.pointer (some ⟨g, 0, none⟩), .bool t.2] 55 (0, 0)) ∧ w''.heap[w.heap.size]? = some (.cells #[.string ⟨x.ty.toArray⟩, .slice B x.words.length b] 45 (0, 0))) (by kernel_rfl) (by kernel_rfl) (by kernel_rfl) (by kernel_rfl) (by kernel_rfl) ⟨(New.drew w1).blk c1.blk, (New.drew w1).blk hX1⟩ ?_
    refine Exists.intro (some ⟨g, 0, none⟩) (And.intro (fun w'' hw => cellB hw.1 rfl) ?_)
    refine Exists.intro (⟨x.ty.toArray⟩ : ByteArray) (And.intro (fun w'' hw => cellB hw.2 rfl) ?_)
    have cd := c1.new (New.drew w1)
    have hXd := (New.drew w1).blk hX1
    have na := New.alloc w1.drew (.cells #[.int .i64 ((ByteArray.mk x.ty.toArray).size : Int)] 3)
    refine eff_build (xs := [zi ((ByteArray.mk x.ty.toArray).size : Int)]) rfl rfl rfl rfl rfl rfl rfl rfl rfl ?_
    refine Exists.intro (fun w'' : World => w''.heap[h]? = some (.cells #[.pointer (some ⟨g, 0, none⟩), .bool t.2] 55 (0, 0)) ∧ w''.heap[w.heap.size]? = some (.cells #[.string ⟨x.ty.toArray⟩, .slice B x.words.length b] 45 (0, 0))) ?_
    refine And.intro (fun _ h => h) ?_
    refine And.intro (show (w1.drew.alloc (.cells #[.int .i64 ((ByteArray.mk x.ty.toArray).size : Int)] 3)).heap[h]? = some (.cells #[.pointer (some ⟨g, 0, none⟩), .bool t.2] 55 (0, 0)) ∧ (w1.drew.alloc (.cells #[.int .i64 ((ByteArray.mk x.ty.toArray).size : Int)] 3)).heap[w.heap.size]? = some (.cells #[.string ⟨x.ty.toArray⟩, .slice B x.words.length b] 45 (0, 0)) from ⟨na.blk cd.blk, na.blk hXd⟩) ?_
    refine call_ (WUn base h g v t 2 ((ByteArray.mk x.ty.toArray).size : Int) w1.drew cd (by omega)) ?_
    rintro e w3 ⟨rfl, v3, k3⟩
    refine ⟨_, rfl, ?_⟩
    have hX3 := k3.mod.blk hXd hXh
    refine Exists.intro (fun w'' : World => w''.heap[h]? = some (.cells #[.pointer (some ⟨g, 0, none⟩), .bool t.2] 55 (0, 0)) ∧ w''.heap[w.heap.size]? = some (.cells #[.string ⟨x.ty.toArray⟩, .slice B x.words.length b] 45 (0, 0))) ?_
    refine And.intro (fun _ h => h) ?_
    refine And.intro (show w3.heap[h]? = some (.cells #[.pointer (some ⟨g, 0, none⟩), .bool t.2] 55 (0, 0)) ∧ w3.heap[w.heap.size]? = some (.cells #[.string ⟨x.ty.toArray⟩, .slice B x.words.length b] 45 (0, 0)) from ⟨k3.wi.blk, hX3⟩) ?_
    refine call_ (note_ok base h g v3 _ (allErr (2 : Nat) false [((ByteArray.mk x.ty.toArray).size : Int)]) w3 k3.wi) ?_
    rintro e w4 ⟨rfl, k4⟩
    refine ⟨_, rfl, ?_⟩
    have kk := k3.then k4
    dsimp only at kk
    rw [allErr_good, size_str] at kk
    refine hK v3 _ _ ⟨rfl, rfl, trivial⟩ ⟨((Ki.refl c1).new (New.drew w1)).then kk, k4.mod.blk hX3 ?_⟩
    exact Ki.loc c z1 (((Ki.refl c1).new (New.drew w1)).then k3)
  rintro v2 w2 fr2 ⟨k2, hX2⟩
  have hty := wri_ty (t := t) hlen
  have hl2 := hty.1
  dsimp only at hl2
  rw [List.length_append] at hl2
  generalize noteS t 2 false [(x.ty.length : Int)] = t2 at k2 hty hl2
  have L2 := Ki.loc c z1 k2
  refine seq_cut (σ := Value) (fun _ => [(0, .pointer (some ⟨h, 0, none⟩)), (3, .pointer (some ⟨w.heap.size, 0, none⟩))]) (fun v' w' => Ki w2 base h g v2 w' v' (t2.1 ++ x.ty, t2.2) ∧ w'.heap[w.heap.size]? = some (.cells #[.string ⟨x.ty.toArray⟩, .slice B x.words.length b] 45 (0, 0))) ?_ ?_
  rotate_left
  · intro K hK
    refine draw_ (w := w2) ok (.q 0 (.q 1 (.q 2 (.q 3 (.q 4 (.q 5 (.e 6 (.e 7 .done)))))))) [7] (fun w'' : World => w''.heap[h]? = some (.cells #[.pointer (some ⟨g, 0, none⟩), .bool t2.2] 55 (0, 0)) ∧ w''.heap[w.heap.size]? = some (.cells #[.string ⟨x.ty.toArray⟩, .slice B x.words.length b] 45 (0, 0))) (by kernel_rfl) (by kernel_rfl) (by kernel_rfl) (by kernel_rfl) (by kernel_rfl) ⟨(New.drew w2).blk k2.wi.blk, (New.drew w2).blk hX2⟩ ?_
    refine Exists.intro (some ⟨g, 0, none⟩) (And.intro (fun w'' hw => cellB hw.1 rfl) ?_)
    refine Exists.intro (⟨x.ty.toArray⟩ : ByteArray) (And.intro (fun w'' hw => cellB hw.2 rfl) ?_)
    have cd := k2.wi.new (New.drew w2)
    have hXd := (New.drew w2).blk hX2
    refine plan_conv rfl rfl rfl rfl ?_
    refine str_bytes_ ok rfl rfl rfl rfl rfl rfl (l := x.ty) rfl (by omega) ?_
    intro c13 w13 hc13 hcm13 row13 n13 s13
    refine Exists.intro (fun w'' : World => w''.heap[h]? = some (.cells #[.pointer (some ⟨g, 0, none⟩), .bool t2.2] 55 (0, 0)) ∧ w''.heap[w.heap.size]? = some (.cells #[.string ⟨x.ty.toArray⟩, .slice B x.words.length b] 45 (0, 0))) ?_
    refine And.intro (fun _ h => h) ?_
    refine And.intro (show w13.heap[h]? = some (.cells #[.pointer (some ⟨g, 0, none⟩), .bool t2.2] 55 (0, 0)) ∧ w13.heap[w.heap.size]? = some (.cells #[.string ⟨x.ty.toArray⟩, .slice B x.words.length b] 45 (0, 0)) from ⟨n13.blk cd.blk, n13.blk hXd⟩) ?_
    refine call_ (WB1 base g v2 t2.1 (some ⟨w2.drew.heap.size, 0, none⟩) x.ty.length c13 x.ty w13 (cd.new n13).wr row13 rfl (by omega) (cd.new n13).bw) ?_
    rintro e w4 ⟨rfl, v4, j4⟩
    refine ⟨_, rfl, ?_⟩
    refine hK v4 _ _ ⟨rfl, rfl, trivial⟩ ⟨((Ki.refl k2.wi).new ((New.drew w2).trans n13)).then ((cd.new n13).act j4), j4.mod.blk (n13.blk hXd) (fun e => L2 (.inl e))⟩
  rintro v3 w3 fr3 ⟨k3, hX3⟩
  have kk := (K1.then k2).then k3
  refine Exists.intro B (Exists.intro x.words.length (Exists.intro b (And.intro (cellB hX3 rfl) ?_)))
  refine call_ (list_val base h g v3 _ _ x.words w3 k3.wi (LRep.mod valOk (by decide) lw0 (kk.old c)) hf (by dsimp only; rw [List.length_append]; omega)) ?_
  rintro e w4 ⟨rfl, v4, t4, k4, wr4⟩
  refine ⟨_, rfl, ?_⟩
  exact ⟨rfl, v4, t4, kk.then k4, wri_obj hty wr4⟩
theorem list_obj (base h g : Nat) (v : Value) (t : WT) (vl : Value) (xs : List Obj) (w : World) (c : Wi w base h g v t) (hl : LRep objR w (fun b => base ≤ b) vl xs) (hf : ∀ x ∈ xs, fObj x) (hm : t.1.length + (4 + csum cObj xs) ≤ 1000000000) :
    Calls Try.prog 23 #[.pointer (some ⟨h, 0, none⟩), vl, .func (.func 24) #[.pointer (some ⟨h, 0, none⟩)] #[]] w fun e w' => e = .returned (.tuple #[]) ∧ ∃ v' t', Ki w base h g v w' v' t' ∧ Wri (list 4 Image.w4 objF) (4 + csum cObj xs) t xs t' := by
  obtain ⟨Al, cl, rfl, h43, _⟩ := hl.get objOk (by decide)
  refine enter ok Try.func23 rfl rfl rfl ?_
  refine seq_cut (σ := Value × WT) (fun _ => [(1, .slice Al xs.length cl), (2, .func (.func 24) #[.pointer (some ⟨h, 0, none⟩)] #[])]) (fun s w' => Ki w base h g v w' s.1 s.2 ∧ Wri (num 4 false Image.w4) 4 t (xs.length : Int) s.2) ?_ ?_
  rotate_left
  · intro K hK
    refine Exists.intro (some ⟨g, 0, none⟩) (And.intro (cellB c.blk rfl) ?_)
    refine call_ (WUn base h g v t 4 (xs.length : Int) w c (by omega)) ?_
    rintro e w3 ⟨rfl, v3, k3⟩
    refine ⟨_, rfl, ?_⟩
    refine call_ (note_ok base h g v3 _ (allErr (4 : Nat) false [(xs.length : Int)]) w3 k3.wi) ?_
    rintro e w4 ⟨rfl, k4⟩
    refine ⟨_, rfl, ?_⟩
    have kk := k3.then k4
    dsimp only at kk
    rw [allErr_good] at kk
    exact hK (v3, noteS t 4 false [(xs.length : Int)]) _ _ ⟨rfl, rfl, trivial⟩ ⟨kk, Wri.num Image.w4 fun h => fits_small (.inr (.inr rfl)) h⟩
  rintro ⟨v2, t2⟩ w2 fr2 ⟨k2, wr2⟩
  dsimp only at k2 wr2
  refine seq_cut (σ := Unit) (fun _ => [(2, .func (.func 24) #[.pointer (some ⟨h, 0, none⟩)] #[]), (18, .slice Al xs.length cl), (19, .int .i64 (xs.length : Int)), (20, .int .i64 0)]) (fun _ w' => w' = w2) ?_ ?_
  rotate_left
  · intro K hK
    exact hK () _ _ ⟨rfl, rfl, rfl, rfl, trivial⟩ rfl
  rintro _ wy fry hwy
  obtain rfl := hwy.symm
  refine den_loop (σ := Nat × Value × WT) (fun s => [(2, .func (.func 24) #[.pointer (some ⟨h, 0, none⟩)] #[]), (18, .slice Al xs.length cl), (19, .int .i64 (xs.length : Int)), (20, .int .i64 (s.1 : Int))])
    (fun m s wl => m + s.1 = xs.length ∧ Ki w base h g v wl s.2.1 s.2.2 ∧ WLst objF cObj t xs s.1 s.2.2) xs.length (0, v2, t2) ⟨rfl, rfl, rfl, rfl, trivial⟩ ⟨rfl, k2, WLst.start wr2⟩ ?_
  rintro m ⟨i, v3, t3⟩ wl frl ⟨hfuel, kl, hw⟩
  dsimp only at hfuel kl hw
  refine if_p (fun hlt => ?_) (fun hge => ?_)
  · replace hlt : (i : Int) < (xs.length : Int) := hlt
    have hi : i < xs.length := by omega
    obtain ⟨m, rfl⟩ : ∃ m', m = m' + 1 := ⟨m - 1, by omega⟩
    have inc := incN hi h43
    obtain ⟨Al', cl', he, _, gx⟩ := (LRep.mod objOk (by decide) hl (kl.old c)).get objOk (by decide)
    cases he
    obtain ⟨a, cs, ea, hx, hc⟩ := gx i hi
    have hcs : csum cObj (xs.take i) + cObj xs[i] ≤ csum cObj xs := by
      have h1 := csum_le cObj xs (i + 1)
      rw [List.take_succ_eq_append_getElem hi, csum_snoc] at h1
      exact h1
    have hw1 := hw.1
    obtain ⟨y, hy⟩ : ∃ y, y = xs[i] := ⟨_, rfl⟩
    have hfy : fObj y := by rw [hy]; exact hf _ (List.getElem_mem hi)
    rw [← hy] at hx hcs
    have hx0 := hx
    obtain ⟨vv, rfl, hv⟩ := hx
    obtain ⟨Av, cv, tv, rfl, _⟩ := hv
    refine And.intro (by omega) (And.intro hlt ?_)
    refine some_at ea ?_
    refine loadN_row (vs := [.string ⟨y.ty.toArray⟩, .slice Av y.words.length cv]) (fun j u hu => by rw [Int.toNat_natCast]; exact hc j u hu) rfl ?_
    refine And.intro rfl ?_
    refine storeNew (vs := [.string ⟨y.ty.toArray⟩, .slice Av y.words.length cv]) (arr := #[.string ⟨#[]⟩, .slice none 0 0]) rfl (objOk.one hx0) ?_
    intro w5 hb5 n5 s5
    refine loadN_row (vs := [.string ⟨y.ty.toArray⟩, .slice Av y.words.length cv]) (rowB hb5) rfl ?_
    refine call_ (wobject_ok base h g v3 t3 [.string ⟨y.ty.toArray⟩, .slice Av y.words.length cv] y w5 (kl.wi.new n5) (objOk.mod hx0 n5.mod) hfy (by omega)) ?_
    rintro e w6 ⟨rfl, v6, t6, k6, wr6⟩
    refine ⟨_, rfl, ?_⟩
    exact ⟨m, (i + 1, v6, t6), by omega, ⟨rfl, rfl, rfl, inc, trivial⟩, by dsimp only; omega, (kl.new n5).then k6, hw.step hi (by rw [← hy]; exact wr6)⟩
  · replace hge : ¬ (i : Int) < (xs.length : Int) := hge
    obtain rfl : i = xs.length := by omega
    exact ⟨rfl, v3, t3, kl, hw.done⟩
theorem wcall_ok (base h g : Nat) (v : Value) (t : WT) (cs : List Value) (x : Call) (w : World) (c : Wi w base h g v t) (hx : callR w (fun b => base ≤ b) cs x) (hf : fCall x) (hm : t.1.length + cCall x ≤ 1000000000) :
    Calls Try.prog 63 #[.pointer (some ⟨h, 0, none⟩), .agg cs.toArray] w fun e w' => e = .returned (.tuple #[]) ∧ ∃ v' t', Ki w base h g v w' v' t' ∧ Wri callF (cCall x) t x t' := by
  obtain ⟨vw, uw, rfl, lw, lu⟩ := hx
  have lw0 := lw
  have lu0 := lu
  obtain ⟨B, b, _, rfl, _⟩ := lw
  obtain ⟨D, d, _, rfl, _⟩ := lu
  obtain ⟨f1, f2, f3, f4, f5, f6⟩ := hf
  have hcost : cCall x = 40 + csum cVal x.locals + csum cVal x.stack := rfl
  refine enter ok Try.func63 rfl rfl rfl ?_
  refine seq_cut (σ := Unit) (fun _ => [(0, .pointer (some ⟨h, 0, none⟩)), (3, .pointer (some ⟨w.heap.size, 0, none⟩))]) (fun _ w' => New w w' ∧ w'.heap[w.heap.size]? = some (.cells #[zi x.cl, zi x.me, zi x.at_, .slice B x.locals.length b, .slice D x.stack.length d, zi x.lock] 50 (0, 0)) ∧ w.heap.size < w'.heap.size) ?_ ?_
  rotate_left
  · intro K hK
    have z0 : w.heap.size < (w.alloc (.cells #[zi x.cl, zi x.me, zi x.at_, .slice B x.locals.length b, .slice D x.stack.length d, zi x.lock] 50)).heap.size := by simp
    exact hK () _ _ ⟨rfl, rfl, trivial⟩ ⟨New.alloc w _, heap_alloc_new w (.cells #[zi x.cl, zi x.me, zi x.at_, .slice B x.locals.length b, .slice D x.stack.length d, zi x.lock] 50), z0⟩
  rintro _ w1 fr1 ⟨n1, hX1, z1⟩
  have c1 := c.new n1
  have hXh := c.hi (Nat.le_refl w.heap.size)
  have K1 : Ki w base h g v w1 v t := (Ki.refl c).new n1
  have keep : ∀ {w' : World} {v' : Value} {t' : WT}, Ki w base h g v w' v' t' → ¬ WH h g v' w.heap.size → True := fun _ _ => trivial
  clear keep
  refine seq_cut (σ := Value) (fun _ => [(0, .pointer (some ⟨h, 0, none⟩)), (3, .pointer (some ⟨w.heap.size, 0, none⟩))]) (fun v' w' => Ki w1 base h g v w' v' (noteS t 8 true [x.cl, x.me, x.at_, x.lock])) ?_ ?_
  rotate_left
  · intro K hK
    refine Exists.intro x.cl (And.intro (cellB hX1 rfl) ?_)
    refine Exists.intro x.me (And.intro (cellB hX1 rfl) ?_)
    refine Exists.intro x.at_ (And.intro (cellB hX1 rfl) ?_)
    refine Exists.intro x.lock (And.intro (cellB hX1 rfl) ?_)
    refine call_ (numbers1_ok base h g v t [x.cl, x.me, x.at_, x.lock] 4 w1 c1 rfl (by simp; omega)) ?_
    rintro e w2 ⟨rfl, v2, k2⟩
    refine ⟨_, rfl, ?_⟩
    exact hK v2 _ _ ⟨rfl, rfl, trivial⟩ k2
  rintro v2 w2 fr2 k2
  rw [noteS4] at k2
  have q1 := Wri.num (t := t) w8 (sign := true) (n := x.cl) fun _ => f1
  have q2 := Wri.num (t := noteS t 8 true [x.cl]) w8 (sign := true) (n := x.me) fun _ => f2
  have q3 := Wri.num (t := noteS (noteS t 8 true [x.cl]) 8 true [x.me]) w8 (sign := true) (n := x.at_) fun _ => f3
  have q4 := Wri.num (t := noteS (noteS (noteS t 8 true [x.cl]) 8 true [x.me]) 8 true [x.at_]) w8 (sign := true) (n := x.lock) fun _ => f4
  generalize noteS t 8 true [x.cl] = u1 at k2 q1 q2 q3 q4
  generalize noteS u1 8 true [x.me] = u2 at k2 q2 q3 q4
  generalize noteS u2 8 true [x.at_] = u3 at k2 q3 q4
  generalize noteS u3 8 true [x.lock] = u4 at k2 q4
  have p1 := q1.1
  have p2 := q2.1
  have p3 := q3.1
  have p4 := q4.1
  have L2 := Ki.loc c z1 k2
  have hX2 := k2.mod.blk hX1 hXh
  have kk2 := K1.then k2
  refine seq_cut (σ := Value × WT) (fun _ => [(0, .pointer (some ⟨h, 0, none⟩)), (3, .pointer (some ⟨w.heap.size, 0, none⟩))]) (fun s w' => Ki w2 base h g v2 w' s.1 s.2 ∧ Wri valsF (4 + csum cVal x.locals) u4 x.locals s.2) ?_ ?_
  rotate_left
  · intro K hK
    refine Exists.intro B (Exists.intro x.locals.length (Exists.intro b (And.intro (cellB hX2 rfl) ?_)))
    refine call_ (list_val base h g v2 u4 _ x.locals w2 k2.wi (LRep.mod valOk (by decide) lw0 (kk2.old c)) f5 (by omega)) ?_
    rintro e w3 ⟨rfl, v3, t3, k3, wr3⟩
    refine ⟨_, rfl, ?_⟩
    exact hK (v3, t3) _ _ ⟨rfl, rfl, trivial⟩ ⟨k3, wr3⟩
  rintro ⟨v3, t3⟩ w3 fr3 ⟨k3, wr3⟩
  dsimp only at k3 wr3
  have p5 := wr3.1
  have hX3 := k3.mod.blk hX2 L2
  have kk3 := kk2.then k3
  refine Exists.intro D (Exists.intro x.stack.length (Exists.intro d (And.intro (cellB hX3 rfl) ?_)))
  refine call_ (list_val base h g v3 t3 _ x.stack w3 k3.wi (LRep.mod valOk (by decide) lu0 (kk3.old c)) f6 (by omega)) ?_
  rintro e w4 ⟨rfl, v4, t4, k4, wr4⟩
  refine ⟨_, rfl, ?_⟩
  exact ⟨rfl, v4, t4, kk3.then k4, wri_call q1 q2 q3 q4 wr3 wr4⟩
theorem list_call (base h g : Nat) (v : Value) (t : WT) (vl : Value) (xs : List Call) (w : World) (c : Wi w base h g v t) (hl : LRep callR w (fun b => base ≤ b) vl xs) (hf : ∀ x ∈ xs, fCall x) (hm : t.1.length + (4 + csum cCall xs) ≤ 1000000000) :
    Calls Try.prog 62 #[.pointer (some ⟨h, 0, none⟩), vl, .func (.func 63) #[.pointer (some ⟨h, 0, none⟩)] #[]] w fun e w' => e = .returned (.tuple #[]) ∧ ∃ v' t', Ki w base h g v w' v' t' ∧ Wri (list 4 Image.w4 callF) (4 + csum cCall xs) t xs t' := by
  obtain ⟨Al, cl, rfl, h43, _⟩ := hl.get callOk (by decide)
  refine enter ok Try.func62 rfl rfl rfl ?_
  refine seq_cut (σ := Value × WT) (fun _ => [(1, .slice Al xs.length cl), (2, .func (.func 63) #[.pointer (some ⟨h, 0, none⟩)] #[])]) (fun s w' => Ki w base h g v w' s.1 s.2 ∧ Wri (num 4 false Image.w4) 4 t (xs.length : Int) s.2) ?_ ?_
  rotate_left
  · intro K hK
    refine Exists.intro (some ⟨g, 0, none⟩) (And.intro (cellB c.blk rfl) ?_)
    refine call_ (WUn base h g v t 4 (xs.length : Int) w c (by omega)) ?_
    rintro e w3 ⟨rfl, v3, k3⟩
    refine ⟨_, rfl, ?_⟩
    refine call_ (note_ok base h g v3 _ (allErr (4 : Nat) false [(xs.length : Int)]) w3 k3.wi) ?_
    rintro e w4 ⟨rfl, k4⟩
    refine ⟨_, rfl, ?_⟩
    have kk := k3.then k4
    dsimp only at kk
    rw [allErr_good] at kk
    exact hK (v3, noteS t 4 false [(xs.length : Int)]) _ _ ⟨rfl, rfl, trivial⟩ ⟨kk, Wri.num Image.w4 fun h => fits_small (.inr (.inr rfl)) h⟩
  rintro ⟨v2, t2⟩ w2 fr2 ⟨k2, wr2⟩
  dsimp only at k2 wr2
  refine seq_cut (σ := Unit) (fun _ => [(2, .func (.func 63) #[.pointer (some ⟨h, 0, none⟩)] #[]), (18, .slice Al xs.length cl), (19, .int .i64 (xs.length : Int)), (20, .int .i64 0)]) (fun _ w' => w' = w2) ?_ ?_
  rotate_left
  · intro K hK
    exact hK () _ _ ⟨rfl, rfl, rfl, rfl, trivial⟩ rfl
  rintro _ wy fry hwy
  obtain rfl := hwy.symm
  refine den_loop (σ := Nat × Value × WT) (fun s => [(2, .func (.func 63) #[.pointer (some ⟨h, 0, none⟩)] #[]), (18, .slice Al xs.length cl), (19, .int .i64 (xs.length : Int)), (20, .int .i64 (s.1 : Int))])
    (fun m s wl => m + s.1 = xs.length ∧ Ki w base h g v wl s.2.1 s.2.2 ∧ WLst callF cCall t xs s.1 s.2.2) xs.length (0, v2, t2) ⟨rfl, rfl, rfl, rfl, trivial⟩ ⟨rfl, k2, WLst.start wr2⟩ ?_
  rintro m ⟨i, v3, t3⟩ wl frl ⟨hfuel, kl, hw⟩
  dsimp only at hfuel kl hw
  refine if_p (fun hlt => ?_) (fun hge => ?_)
  · replace hlt : (i : Int) < (xs.length : Int) := hlt
    have hi : i < xs.length := by omega
    obtain ⟨m, rfl⟩ : ∃ m', m = m' + 1 := ⟨m - 1, by omega⟩
    have inc := incN hi h43
    obtain ⟨Al', cl', he, _, gx⟩ := (LRep.mod callOk (by decide) hl (kl.old c)).get callOk (by decide)
    cases he
    obtain ⟨a, cs, ea, hx, hc⟩ := gx i hi
    have hcs : csum cCall (xs.take i) + cCall xs[i] ≤ csum cCall xs := by
      have h1 := csum_le cCall xs (i + 1)
      rw [List.take_succ_eq_append_getElem hi, csum_snoc] at h1
      exact h1
    have hw1 := hw.1
    obtain ⟨y, hy⟩ : ∃ y, y = xs[i] := ⟨_, rfl⟩
    have hfy : fCall y := by rw [hy]; exact hf _ (List.getElem_mem hi)
    rw [← hy] at hx hcs
    have hx0 := hx
    obtain ⟨vv, uu, rfl, hv, hu⟩ := hx
    obtain ⟨Av, cv, tv, rfl, _⟩ := hv
    obtain ⟨Au, cu, tu, rfl, _⟩ := hu
    refine And.intro (by omega) (And.intro hlt ?_)
    refine some_at ea ?_
    refine loadN_row (vs := [zi y.cl, zi y.me, zi y.at_, .slice Av y.locals.length cv, .slice Au y.stack.length cu, zi y.lock]) (fun j u hu => by rw [Int.toNat_natCast]; exact hc j u hu) rfl ?_
    refine And.intro rfl ?_
    refine storeNew (vs := [zi y.cl, zi y.me, zi y.at_, .slice Av y.locals.length cv, .slice Au y.stack.length cu, zi y.lock]) (arr := #[zi 0, zi 0, zi 0, .slice none 0 0, .slice none 0 0, zi 0]) rfl (callOk.one hx0) ?_
    intro w5 hb5 n5 s5
    refine loadN_row (vs := [zi y.cl, zi y.me, zi y.at_, .slice Av y.locals.length cv, .slice Au y.stack.length cu, zi y.lock]) (rowB hb5) rfl ?_
    refine call_ (wcall_ok base h g v3 t3 [zi y.cl, zi y.me, zi y.at_, .slice Av y.locals.length cv, .slice Au y.stack.length cu, zi y.lock] y w5 (kl.wi.new n5) (callOk.mod hx0 n5.mod) hfy (by omega)) ?_
    rintro e w6 ⟨rfl, v6, t6, k6, wr6⟩
    refine ⟨_, rfl, ?_⟩
    exact ⟨m, (i + 1, v6, t6), by omega, ⟨rfl, rfl, rfl, inc, trivial⟩, by dsimp only; omega, (kl.new n5).then k6, hw.step hi (by rw [← hy]; exact wr6)⟩
  · replace hge : ¬ (i : Int) < (xs.length : Int) := hge
    obtain rfl : i = xs.length := by omega
    exact ⟨rfl, v3, t3, kl, hw.done⟩
theorem wthread_ok (base h g : Nat) (v : Value) (t : WT) (cs : List Value) (x : Thr) (w : World) (c : Wi w base h g v t) (hx : thrR w (fun b => base ≤ b) cs x) (hf : fThr x) (hm : t.1.length + cThr x ≤ 1000000000) :
    Calls Try.prog 26 #[.pointer (some ⟨h, 0, none⟩), .agg cs.toArray] w fun e w' => e = .returned (.tuple #[]) ∧ ∃ v' t', Ki w base h g v w' v' t' ∧ Wri thrF (cThr x) t x t' := by
  obtain ⟨vw, rfl, lw⟩ := hx
  have lw0 := lw
  obtain ⟨B, b, _, rfl, _⟩ := lw
  obtain ⟨f1, f2, f3, f4⟩ := hf
  have hcost : cThr x = 28 + csum cCall x.calls := rfl
  refine enter ok Try.func26 rfl rfl rfl ?_
  refine seq_cut (σ := Unit) (fun _ => [(0, .pointer (some ⟨h, 0, none⟩)), (3, .pointer (some ⟨w.heap.size, 0, none⟩))]) (fun _ w' => New w w' ∧ w'.heap[w.heap.size]? = some (.cells #[zi x.state, .slice B x.calls.length b, zi x.on, zi x.count] 48 (0, 0)) ∧ w.heap.size < w'.heap.size) ?_ ?_
  rotate_left
  · intro K hK
    have z0 : w.heap.size < (w.alloc (.cells #[zi x.state, .slice B x.calls.length b, zi x.on, zi x.count] 48)).heap.size := by simp
    exact hK () _ _ ⟨rfl, rfl, trivial⟩ ⟨New.alloc w _, heap_alloc_new w (.cells #[zi x.state, .slice B x.calls.length b, zi x.on, zi x.count] 48), z0⟩
  rintro _ w1 fr1 ⟨n1, hX1, z1⟩
  have c1 := c.new n1
  have hXh := c.hi (Nat.le_refl w.heap.size)
  have K1 : Ki w base h g v w1 v t := (Ki.refl c).new n1
  have keep : ∀ {w' : World} {v' : Value} {t' : WT}, Ki w base h g v w' v' t' → ¬ WH h g v' w.heap.size → True := fun _ _ => trivial
  clear keep
  refine seq_cut (σ := Value) (fun _ => [(0, .pointer (some ⟨h, 0, none⟩)), (3, .pointer (some ⟨w.heap.size, 0, none⟩))]) (fun v' w' => Ki w1 base h g v w' v' (noteS t 8 true [x.state, x.on, x.count])) ?_ ?_
  rotate_left
  · intro K hK
    refine Exists.intro x.state (And.intro (cellB hX1 rfl) ?_)
    refine Exists.intro x.on (And.intro (cellB hX1 rfl) ?_)
    refine Exists.intro x.count (And.intro (cellB hX1 rfl) ?_)
    refine call_ (numbers1_ok base h g v t [x.state, x.on, x.count] 3 w1 c1 rfl (by simp; omega)) ?_
    rintro e w2 ⟨rfl, v2, k2⟩
    refine ⟨_, rfl, ?_⟩
    exact hK v2 _ _ ⟨rfl, rfl, trivial⟩ k2
  rintro v2 w2 fr2 k2
  rw [noteS3] at k2
  have q1 := Wri.num (t := t) w8 (sign := true) (n := x.state) fun _ => f1
  have q2 := Wri.num (t := noteS t 8 true [x.state]) w8 (sign := true) (n := x.on) fun _ => f2
  have q3 := Wri.num (t := noteS (noteS t 8 true [x.state]) 8 true [x.on]) w8 (sign := true) (n := x.count) fun _ => f3
  generalize noteS t 8 true [x.state] = u1 at k2 q1 q2 q3
  generalize noteS u1 8 true [x.on] = u2 at k2 q2 q3
  generalize noteS u2 8 true [x.count] = u3 at k2 q3
  have p1 := q1.1
  have p2 := q2.1
  have p3 := q3.1
  have hX2 := k2.mod.blk hX1 hXh
  have kk2 := K1.then k2
  refine Exists.intro B (Exists.intro x.calls.length (Exists.intro b (And.intro (cellB hX2 rfl) ?_)))
  refine call_ (list_call base h g v2 u3 _ x.calls w2 k2.wi (LRep.mod callOk (by decide) lw0 (kk2.old c)) f4 (by omega)) ?_
  rintro e w3 ⟨rfl, v3, t3, k3, wr3⟩
  refine ⟨_, rfl, ?_⟩
  exact ⟨rfl, v3, t3, kk2.then k3, wri_thr q1 q2 q3 wr3⟩
theorem list_thr (base h g : Nat) (v : Value) (t : WT) (vl : Value) (xs : List Thr) (w : World) (c : Wi w base h g v t) (hl : LRep thrR w (fun b => base ≤ b) vl xs) (hf : ∀ x ∈ xs, fThr x) (hm : t.1.length + (4 + csum cThr xs) ≤ 1000000000) :
    Calls Try.prog 25 #[.pointer (some ⟨h, 0, none⟩), vl, .func (.func 26) #[.pointer (some ⟨h, 0, none⟩)] #[]] w fun e w' => e = .returned (.tuple #[]) ∧ ∃ v' t', Ki w base h g v w' v' t' ∧ Wri (list 4 Image.w4 thrF) (4 + csum cThr xs) t xs t' := by
  obtain ⟨Al, cl, rfl, h43, _⟩ := hl.get thrOk (by decide)
  refine enter ok Try.func25 rfl rfl rfl ?_
  refine seq_cut (σ := Value × WT) (fun _ => [(1, .slice Al xs.length cl), (2, .func (.func 26) #[.pointer (some ⟨h, 0, none⟩)] #[])]) (fun s w' => Ki w base h g v w' s.1 s.2 ∧ Wri (num 4 false Image.w4) 4 t (xs.length : Int) s.2) ?_ ?_
  rotate_left
  · intro K hK
    refine Exists.intro (some ⟨g, 0, none⟩) (And.intro (cellB c.blk rfl) ?_)
    refine call_ (WUn base h g v t 4 (xs.length : Int) w c (by omega)) ?_
    rintro e w3 ⟨rfl, v3, k3⟩
    refine ⟨_, rfl, ?_⟩
    refine call_ (note_ok base h g v3 _ (allErr (4 : Nat) false [(xs.length : Int)]) w3 k3.wi) ?_
    rintro e w4 ⟨rfl, k4⟩
    refine ⟨_, rfl, ?_⟩
    have kk := k3.then k4
    dsimp only at kk
    rw [allErr_good] at kk
    exact hK (v3, noteS t 4 false [(xs.length : Int)]) _ _ ⟨rfl, rfl, trivial⟩ ⟨kk, Wri.num Image.w4 fun h => fits_small (.inr (.inr rfl)) h⟩
  rintro ⟨v2, t2⟩ w2 fr2 ⟨k2, wr2⟩
  dsimp only at k2 wr2
  refine seq_cut (σ := Unit) (fun _ => [(2, .func (.func 26) #[.pointer (some ⟨h, 0, none⟩)] #[]), (18, .slice Al xs.length cl), (19, .int .i64 (xs.length : Int)), (20, .int .i64 0)]) (fun _ w' => w' = w2) ?_ ?_
  rotate_left
  · intro K hK
    exact hK () _ _ ⟨rfl, rfl, rfl, rfl, trivial⟩ rfl
  rintro _ wy fry hwy
  obtain rfl := hwy.symm
  refine den_loop (σ := Nat × Value × WT) (fun s => [(2, .func (.func 26) #[.pointer (some ⟨h, 0, none⟩)] #[]), (18, .slice Al xs.length cl), (19, .int .i64 (xs.length : Int)), (20, .int .i64 (s.1 : Int))])
    (fun m s wl => m + s.1 = xs.length ∧ Ki w base h g v wl s.2.1 s.2.2 ∧ WLst thrF cThr t xs s.1 s.2.2) xs.length (0, v2, t2) ⟨rfl, rfl, rfl, rfl, trivial⟩ ⟨rfl, k2, WLst.start wr2⟩ ?_
  rintro m ⟨i, v3, t3⟩ wl frl ⟨hfuel, kl, hw⟩
  dsimp only at hfuel kl hw
  refine if_p (fun hlt => ?_) (fun hge => ?_)
  · replace hlt : (i : Int) < (xs.length : Int) := hlt
    have hi : i < xs.length := by omega
    obtain ⟨m, rfl⟩ : ∃ m', m = m' + 1 := ⟨m - 1, by omega⟩
    have inc := incN hi h43
    obtain ⟨Al', cl', he, _, gx⟩ := (LRep.mod thrOk (by decide) hl (kl.old c)).get thrOk (by decide)
    cases he
    obtain ⟨a, cs, ea, hx, hc⟩ := gx i hi
    have hcs : csum cThr (xs.take i) + cThr xs[i] ≤ csum cThr xs := by
      have h1 := csum_le cThr xs (i + 1)
      rw [List.take_succ_eq_append_getElem hi, csum_snoc] at h1
      exact h1
    have hw1 := hw.1
    obtain ⟨y, hy⟩ : ∃ y, y = xs[i] := ⟨_, rfl⟩
    have hfy : fThr y := by rw [hy]; exact hf _ (List.getElem_mem hi)
    rw [← hy] at hx hcs
    have hx0 := hx
    obtain ⟨vv, rfl, hv⟩ := hx
    obtain ⟨Av, cv, tv, rfl, _⟩ := hv
    refine And.intro (by omega) (And.intro hlt ?_)
    refine some_at ea ?_
    refine loadN_row (vs := [zi y.state, .slice Av y.calls.length cv, zi y.on, zi y.count]) (fun j u hu => by rw [Int.toNat_natCast]; exact hc j u hu) rfl ?_
    refine And.intro rfl ?_
    refine storeNew (vs := [zi y.state, .slice Av y.calls.length cv, zi y.on, zi y.count]) (arr := #[zi 0, .slice none 0 0, zi 0, zi 0]) rfl (thrOk.one hx0) ?_
    intro w5 hb5 n5 s5
    refine loadN_row (vs := [zi y.state, .slice Av y.calls.length cv, zi y.on, zi y.count]) (rowB hb5) rfl ?_
    refine call_ (wthread_ok base h g v3 t3 [zi y.state, .slice Av y.calls.length cv, zi y.on, zi y.count] y w5 (kl.wi.new n5) (thrOk.mod hx0 n5.mod) hfy (by omega)) ?_
    rintro e w6 ⟨rfl, v6, t6, k6, wr6⟩
    refine ⟨_, rfl, ?_⟩
    exact ⟨m, (i + 1, v6, t6), by omega, ⟨rfl, rfl, rfl, inc, trivial⟩, by dsimp only; omega, (kl.new n5).then k6, hw.step hi (by rw [← hy]; exact wr6)⟩
  · replace hge : ¬ (i : Int) < (xs.length : Int) := hge
    obtain rfl : i = xs.length := by omega
    exact ⟨rfl, v3, t3, kl, hw.done⟩
theorem wmonitor_ok (base h g : Nat) (v : Value) (t : WT) (cs : List Value) (x : Mon) (w : World) (c : Wi w base h g v t) (hx : monR w (fun b => base ≤ b) cs x) (hf : fMon x) (hm : t.1.length + cMon x ≤ 1000000000) :
    Calls Try.prog 28 #[.pointer (some ⟨h, 0, none⟩), .agg cs.toArray] w fun e w' => e = .returned (.tuple #[]) ∧ ∃ v' t', Ki w base h g v w' v' t' ∧ Wri monF (cMon x) t x t' := by
  obtain rfl := hx
  obtain ⟨f1, f2, f3⟩ := hf
  have hcost : cMon x = 24 := rfl
  refine enter ok Try.func28 rfl rfl rfl ?_
  refine seq_cut (σ := Unit) (fun _ => [(0, .pointer (some ⟨h, 0, none⟩)), (3, .pointer (some ⟨w.heap.size, 0, none⟩))]) (fun _ w' => New w w' ∧ w'.heap[w.heap.size]? = some (.cells #[zi x.ob, zi x.owner, zi x.count] 69 (0, 0)) ∧ w.heap.size < w'.heap.size) ?_ ?_
  rotate_left
  · intro K hK
    have z0 : w.heap.size < (w.alloc (.cells #[zi x.ob, zi x.owner, zi x.count] 69)).heap.size := by simp
    exact hK () _ _ ⟨rfl, rfl, trivial⟩ ⟨New.alloc w _, heap_alloc_new w (.cells #[zi x.ob, zi x.owner, zi x.count] 69), z0⟩
  rintro _ w1 fr1 ⟨n1, hX1, z1⟩
  have c1 := c.new n1
  have hXh := c.hi (Nat.le_refl w.heap.size)
  have K1 : Ki w base h g v w1 v t := (Ki.refl c).new n1
  have keep : ∀ {w' : World} {v' : Value} {t' : WT}, Ki w base h g v w' v' t' → ¬ WH h g v' w.heap.size → True := fun _ _ => trivial
  clear keep
  refine Exists.intro x.ob (And.intro (cellB hX1 rfl) ?_)
  refine Exists.intro x.owner (And.intro (cellB hX1 rfl) ?_)
  refine Exists.intro x.count (And.intro (cellB hX1 rfl) ?_)
  refine call_ (numbers1_ok base h g v t [x.ob, x.owner, x.count] 3 w1 c1 rfl (by simp; omega)) ?_
  rintro e w2 ⟨rfl, v2, k2⟩
  refine ⟨_, rfl, ?_⟩
  rw [noteS3] at k2
  have q1 := Wri.num (t := t) w8 (sign := true) (n := x.ob) fun _ => f1
  have q2 := Wri.num (t := noteS t 8 true [x.ob]) w8 (sign := true) (n := x.owner) fun _ => f2
  have q3 := Wri.num (t := noteS (noteS t 8 true [x.ob]) 8 true [x.owner]) w8 (sign := true) (n := x.count) fun _ => f3
  generalize noteS t 8 true [x.ob] = u1 at k2 q1 q2 q3
  generalize noteS u1 8 true [x.owner] = u2 at k2 q2 q3
  generalize noteS u2 8 true [x.count] = u3 at k2 q3
  have p1 := q1.1
  have p2 := q2.1
  have p3 := q3.1
  exact ⟨rfl, v2, u3, K1.then k2, wri_mon q1 q2 q3⟩
theorem list_mon (base h g : Nat) (v : Value) (t : WT) (vl : Value) (xs : List Mon) (w : World) (c : Wi w base h g v t) (hl : LRep monR w (fun b => base ≤ b) vl xs) (hf : ∀ x ∈ xs, fMon x) (hm : t.1.length + (4 + csum cMon xs) ≤ 1000000000) :
    Calls Try.prog 27 #[.pointer (some ⟨h, 0, none⟩), vl, .func (.func 28) #[.pointer (some ⟨h, 0, none⟩)] #[]] w fun e w' => e = .returned (.tuple #[]) ∧ ∃ v' t', Ki w base h g v w' v' t' ∧ Wri (list 4 Image.w4 monF) (4 + csum cMon xs) t xs t' := by
  obtain ⟨Al, cl, rfl, h43, _⟩ := hl.get monOk (by decide)
  refine enter ok Try.func27 rfl rfl rfl ?_
  refine seq_cut (σ := Value × WT) (fun _ => [(1, .slice Al xs.length cl), (2, .func (.func 28) #[.pointer (some ⟨h, 0, none⟩)] #[])]) (fun s w' => Ki w base h g v w' s.1 s.2 ∧ Wri (num 4 false Image.w4) 4 t (xs.length : Int) s.2) ?_ ?_
  rotate_left
  · intro K hK
    refine Exists.intro (some ⟨g, 0, none⟩) (And.intro (cellB c.blk rfl) ?_)
    refine call_ (WUn base h g v t 4 (xs.length : Int) w c (by omega)) ?_
    rintro e w3 ⟨rfl, v3, k3⟩
    refine ⟨_, rfl, ?_⟩
    refine call_ (note_ok base h g v3 _ (allErr (4 : Nat) false [(xs.length : Int)]) w3 k3.wi) ?_
    rintro e w4 ⟨rfl, k4⟩
    refine ⟨_, rfl, ?_⟩
    have kk := k3.then k4
    dsimp only at kk
    rw [allErr_good] at kk
    exact hK (v3, noteS t 4 false [(xs.length : Int)]) _ _ ⟨rfl, rfl, trivial⟩ ⟨kk, Wri.num Image.w4 fun h => fits_small (.inr (.inr rfl)) h⟩
  rintro ⟨v2, t2⟩ w2 fr2 ⟨k2, wr2⟩
  dsimp only at k2 wr2
  refine seq_cut (σ := Unit) (fun _ => [(2, .func (.func 28) #[.pointer (some ⟨h, 0, none⟩)] #[]), (18, .slice Al xs.length cl), (19, .int .i64 (xs.length : Int)), (20, .int .i64 0)]) (fun _ w' => w' = w2) ?_ ?_
  rotate_left
  · intro K hK
    exact hK () _ _ ⟨rfl, rfl, rfl, rfl, trivial⟩ rfl
  rintro _ wy fry hwy
  obtain rfl := hwy.symm
  refine den_loop (σ := Nat × Value × WT) (fun s => [(2, .func (.func 28) #[.pointer (some ⟨h, 0, none⟩)] #[]), (18, .slice Al xs.length cl), (19, .int .i64 (xs.length : Int)), (20, .int .i64 (s.1 : Int))])
    (fun m s wl => m + s.1 = xs.length ∧ Ki w base h g v wl s.2.1 s.2.2 ∧ WLst monF cMon t xs s.1 s.2.2) xs.length (0, v2, t2) ⟨rfl, rfl, rfl, rfl, trivial⟩ ⟨rfl, k2, WLst.start wr2⟩ ?_
  rintro m ⟨i, v3, t3⟩ wl frl ⟨hfuel, kl, hw⟩
  dsimp only at hfuel kl hw
  refine if_p (fun hlt => ?_) (fun hge => ?_)
  · replace hlt : (i : Int) < (xs.length : Int) := hlt
    have hi : i < xs.length := by omega
    obtain ⟨m, rfl⟩ : ∃ m', m = m' + 1 := ⟨m - 1, by omega⟩
    have inc := incN hi h43
    obtain ⟨Al', cl', he, _, gx⟩ := (LRep.mod monOk (by decide) hl (kl.old c)).get monOk (by decide)
    cases he
    obtain ⟨a, cs, ea, hx, hc⟩ := gx i hi
    have hcs : csum cMon (xs.take i) + cMon xs[i] ≤ csum cMon xs := by
      have h1 := csum_le cMon xs (i + 1)
      rw [List.take_succ_eq_append_getElem hi, csum_snoc] at h1
      exact h1
    have hw1 := hw.1
    obtain ⟨y, hy⟩ : ∃ y, y = xs[i] := ⟨_, rfl⟩
    have hfy : fMon y := by rw [hy]; exact hf _ (List.getElem_mem hi)
    rw [← hy] at hx hcs
    have hx0 := hx
    obtain rfl := hx
    refine And.intro (by omega) (And.intro hlt ?_)
    refine some_at ea ?_
    refine loadN_row (vs := [zi y.ob, zi y.owner, zi y.count]) (fun j u hu => by rw [Int.toNat_natCast]; exact hc j u hu) rfl ?_
    refine And.intro rfl ?_
    refine storeNew (vs := [zi y.ob, zi y.owner, zi y.count]) (arr := #[zi 0, zi 0, zi 0]) rfl (monOk.one hx0) ?_
    intro w5 hb5 n5 s5
    refine loadN_row (vs := [zi y.ob, zi y.owner, zi y.count]) (rowB hb5) rfl ?_
    refine call_ (wmonitor_ok base h g v3 t3 [zi y.ob, zi y.owner, zi y.count] y w5 (kl.wi.new n5) (monOk.mod hx0 n5.mod) hfy (by omega)) ?_
    rintro e w6 ⟨rfl, v6, t6, k6, wr6⟩
    refine ⟨_, rfl, ?_⟩
    exact ⟨m, (i + 1, v6, t6), by omega, ⟨rfl, rfl, rfl, inc, trivial⟩, by dsimp only; omega, (kl.new n5).then k6, hw.step hi (by rw [← hy]; exact wr6)⟩
  · replace hge : ¬ (i : Int) < (xs.length : Int) := hge
    obtain rfl : i = xs.length := by omega
    exact ⟨rfl, v3, t3, kl, hw.done⟩

end Go.Proofs.Yteanhakkceancaa.Image
