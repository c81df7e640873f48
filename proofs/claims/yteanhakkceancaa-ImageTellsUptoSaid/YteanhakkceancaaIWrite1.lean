/- The package image, walked: numbers and values written, and lists of them. Printed by genwrite.py. -/
import Derived.Test.YteanhakkceancaaIWMath
import Derived.Test.YteanhakkceancaaISame
namespace Go.Proofs.Yteanhakkceancaa.Image
open Go Go.Proofs.Yteanhakkceancaa Go.Proofs.Yteanhakkceancaa.Eng Go.Proofs Go.Proofs.Yteanhakkceancaa.Word Go.Proofs.Yteanhakkceancaa.Fmt
open Go.Proofs.Yteanhakkceancaa.Pool (both own_low)
set_option maxRecDepth 10000

/-- A writer of machines in memory. -/
structure Wi (w : World) (base h g : Nat) (v : Value) (t : WT) : Prop where
  blk : w.heap[h]? = some (.cells #[.pointer (some ⟨g, 0, none⟩), .bool t.2] 55 (0, 0))
  wr : Wr w base g v t.1
  ne : h ≠ g
  off : v.ownBlock ≠ some h
  bh : base ≤ h
  bg : base ≤ g
theorem Wi.lt {w : World} {base h g : Nat} {v : Value} {t : WT} (c : Wi w base h g v t) : h < w.heap.size ∧ g < w.heap.size := ⟨(Array.getElem?_eq_some_iff.1 c.blk).1, c.wr.lt⟩
theorem Wi.bw {w : World} {base h g : Nat} {v : Value} {t : WT} (c : Wi w base h g v t) : base ≤ w.heap.size := by
  have := c.lt.1
  have := c.bh
  omega
theorem Wi.new {w w' : World} {base h g : Nat} {v : Value} {t : WT} (c : Wi w base h g v t) (n : New w w') : Wi w' base h g v t := ⟨n.blk c.blk, c.wr.new n, c.ne, c.off, c.bh, c.bg⟩
abbrev WH (h g : Nat) (v : Value) : Nat → Prop := fun b => WS g v b ∨ b = h
structure Ki (w : World) (base h g : Nat) (v : Value) (w' : World) (v' : Value) (t : WT) : Prop where
  wi : Wi w' base h g v' t
  mod : Mod (WH h g v) w w'
  st : stayed w v v'
theorem Ki.refl {w : World} {base h g : Nat} {v : Value} {t : WT} (c : Wi w base h g v t) : Ki w base h g v w v t := ⟨c, Mod.refl _ _, stayed.refl w v⟩
theorem Ki.new {w w' w2 : World} {base h g : Nat} {v v' : Value} {t : WT} (c : Ki w base h g v w' v' t) (n : New w' w2) : Ki w base h g v w2 v' t := ⟨c.wi.new n, both c.mod n.mod, c.st⟩
theorem Ki.then {w w1 w2 : World} {base h g : Nat} {v v1 v2 : Value} {t t2 : WT} (c : Ki w base h g v w1 v1 t) (k : Ki w1 base h g v1 w2 v2 t2) : Ki w base h g v w2 v2 t2 := by
  refine ⟨k.wi, Mod.trans c.mod k.mod ?_, stayed.trans c.st c.mod.size k.st⟩
  rintro b hb ((e | e) | e)
  · exact .inl (.inl e)
  · rcases c.st b e.symm with h1 | h1
    · exact .inl (.inr h1.symm)
    · omega
  · exact .inr e
theorem Wi.old {w w' : World} {base h g : Nat} {v : Value} {t : WT} (c : Wi w base h g v t) (m : Mod (WH h g v) w w') : Mod (fun b => base ≤ b) w w' := m.mono fun b hb e => by
  have h1 := c.bh
  have h2 := c.bg
  rcases e with (e | e) | e
  · omega
  · exact (c.wr.vlt e.symm).1
  · omega
theorem Ki.old {w w' : World} {base h g : Nat} {v v' : Value} {t t' : WT} (c : Wi w base h g v t) (k : Ki w base h g v w' v' t') : Mod (fun b => base ≤ b) w w' := c.old k.mod
theorem Wi.hi {w : World} {base h g : Nat} {v : Value} {t : WT} (c : Wi w base h g v t) {b : Nat} (hb : w.heap.size ≤ b) : ¬ WH h g v b := by
  have := c.lt
  rintro ((e | e) | e)
  · omega
  · exact absurd (c.wr.vlt e.symm).2 (by omega)
  · omega
theorem wr_mod {S : Nat → Prop} {w w' : World} {base g : Nat} {v : Value} {bs : List UInt8} (h : Wr w base g v bs) (m : Mod S w w') (hg : ¬ S g) (hv : ∀ k, v.ownBlock = some k → ¬ S k) : Wr w' base g v bs :=
  ⟨m.blk h.blk hg, own_mod m h.own hv, h.off⟩
theorem Wi.set {w w' : World} {base h g : Nat} {v : Value} {t : WT} (c : Wi w base h g v t) (m : Mod (fun b => b = h) w w') {b : Bool} (hb : w'.heap[h]? = some (.cells #[.pointer (some ⟨g, 0, none⟩), .bool b] 55 (0, 0))) : Ki w base h g v w' v (t.1, b) :=
  ⟨⟨hb, wr_mod c.wr m (fun e => c.ne e.symm) (fun k hk e => c.off (by rw [hk, e])), c.ne, c.off, c.bh, c.bg⟩, m.mono fun _ _ e => .inr e, stayed.refl w v⟩
theorem Wi.act {w w' : World} {base h g : Nat} {v v' : Value} {t : WT} {bs : List UInt8} (c : Wi w base h g v t) (k : Wk w base g v w' v' bs) : Ki w base h g v w' v' (bs, t.2) := by
  have hl := c.lt.1
  refine ⟨⟨k.mod.blk c.blk ?_, k.wr, c.ne, ?_, c.bh, c.bg⟩, k.mod.mono fun _ _ e => .inl e, k.st⟩
  · rintro (e | e)
    · exact c.ne e
    · exact c.off e.symm
  · intro e
    rcases k.st h e with e | e
    · exact c.off e
    · omega
theorem allErr_good (k : Int) (sign : Bool) (zs : List Int) : (!decide (allErr k sign zs = 0)) = !good k sign zs := by
  unfold allErr
  cases good k sign zs <;> rfl
theorem note_ok (base h g : Nat) (v : Value) (t : WT) (er : Int) (w : World) (c : Wi w base h g v t) :
    Calls Try.prog 58 #[.pointer (some ⟨h, 0, none⟩), .int .i64 er] w fun e w' => e = .returned (.tuple #[]) ∧ Ki w base h g v w' v (t.1, t.2 || !decide (er = 0)) := by
  refine enter ok Try.func58 rfl rfl rfl ?_
  have hb := c.blk
  refine Exists.intro t.2 (And.intro (cellB hb rfl) ?_)
  refine if_ (fun hx => ?_) (fun hx => ?_)
  · refine And.intro ⟨_, cellB hb rfl⟩ (And.intro (fzB hb _) (force_ ?_))
    refine stK hb (show (1 : Nat) < 2 by decide) ?_
    intro w1 hb1 m1 s1
    rw [hx, Bool.true_or]
    exact ⟨rfl, c.set m1 hb1⟩
  · refine And.intro ⟨_, cellB hb rfl⟩ (And.intro (fzB hb _) (force_ ?_))
    refine stK hb (show (1 : Nat) < 2 by decide) ?_
    intro w1 hb1 m1 s1
    rw [hx, Bool.false_or]
    exact ⟨rfl, c.set m1 hb1⟩
/-- A number without a sign, of a block of its own, and its note. -/
theorem WUn (base h g : Nat) (v : Value) (t : WT) (k : Nat) (z : Int) (w : World) (c : Wi w base h g v t) (hm : t.1.length ≤ 1000000000) :
    Calls Try.prog 60 #[.pointer (some ⟨g, 0, none⟩), .int .i64 (k : Int), .slice (some ⟨w.heap.size, 0, none⟩) 1 1] (w.alloc (.cells #[.int .i64 z] 3)) fun e w' => e = .returned (.int .i64 (allErr k false [z])) ∧ ∃ v', Ki w base h g v w' v' (allBs t.1 k false [z], t.2) := by
  have a1 := New.alloc w (.cells #[.int .i64 z] 3)
  refine (WU_ok base g v t.1 k (some ⟨w.heap.size, 0, none⟩) 1 1 [z] _ (c.wr.new a1) (one_i64 w z) rfl c.wr.off1 (by simp; omega) (Nat.le_trans c.bw a1.size)).mono ?_
  rintro e w' ⟨rfl, v', h1, h2, h3⟩
  exact ⟨rfl, v', c.act (wk_of c.wr h1 h2 h3)⟩
theorem numbers_ok (base h g : Nat) (v : Value) (t : WT) (C : Option Addr) (q qc : Nat) (zs : List Int) (w : World) (c : Wi w base h g v t) (hz : Row w C (ivs zs)) (hq : q = zs.length) (hC : ∀ a, C = some a → zs ≠ [] → ¬ WS g v a.block) (hm : t.1.length + 8 * zs.length ≤ 140737488355328) :
    Calls Try.prog 18 #[.pointer (some ⟨h, 0, none⟩), .slice C q qc] w fun e w' => e = .returned (.tuple #[]) ∧ ∃ v', Ki w base h g v w' v' (noteS t 8 true zs) := by
  refine enter ok Try.func18 rfl rfl rfl ?_
  refine Exists.intro (some ⟨g, 0, none⟩) (And.intro (cellB c.blk rfl) ?_)
  refine call_ (WS_ok base g v t.1 8 C q qc zs w c.wr hz hq hC hm c.bw) ?_
  rintro e w1 ⟨rfl, v1, h1, h2, h3⟩
  refine ⟨_, rfl, ?_⟩
  have c1 := c.act ⟨h1, h2, h3⟩
  refine call_ (note_ok base h g v1 _ (allErr 8 true zs) w1 c1.wi) ?_
  rintro e w2 ⟨rfl, c2⟩
  refine ⟨_, rfl, ?_⟩
  have := c1.then c2
  dsimp only at this
  rw [allErr_good] at this
  exact ⟨rfl, v1, this⟩
theorem numbers1_ok (base h g : Nat) (v : Value) (t : WT) (zs : List Int) (n : Nat) (w : World) (c : Wi w base h g v t) (hn : n = zs.length) (hm : t.1.length + 8 * zs.length ≤ 140737488355328) :
    Calls Try.prog 18 #[.pointer (some ⟨h, 0, none⟩), .slice (some ⟨w.heap.size, 0, none⟩) n n] (w.alloc (.cells (ivs zs).toArray 3)) fun e w' => e = .returned (.tuple #[]) ∧ ∃ v', Ki w base h g v w' v' (noteS t 8 true zs) := by
  have n1 := New.alloc w (.cells (ivs zs).toArray 3)
  refine (numbers_ok base h g v t (some ⟨w.heap.size, 0, none⟩) n n zs _ (c.new n1) (row_alloc w (ivs zs) _ _) hn c.wr.off1 hm).mono ?_
  rintro e w' ⟨rfl, v', k'⟩
  exact ⟨rfl, v', ((Ki.refl c).new n1).then k'⟩
theorem wnumber_ok (base h g : Nat) (v : Value) (t : WT) (cs : List Value) (x : Int) (w : World) (c : Wi w base h g v t) (hx : intR w (fun b => base ≤ b) cs x) (hf : i64 x) (hm : t.1.length + cInt x ≤ 1000000000) :
    Calls Try.prog 20 #[.pointer (some ⟨h, 0, none⟩), zi x] w fun e w' => e = .returned (.tuple #[]) ∧ ∃ v' t', Ki w base h g v w' v' t' ∧ Wri n8 (cInt x) t x t' := by
  unfold cInt at hm
  refine enter ok Try.func20 rfl rfl rfl ?_
  refine call_ (numbers1_ok base h g v t [x] 1 w c rfl (by simp; omega)) ?_
  rintro e w1 ⟨rfl, v1, k1⟩
  refine ⟨_, rfl, ?_⟩
  exact ⟨rfl, v1, _, k1, Wri.num w8 fun _ => hf⟩
theorem wvalue_ok (base h g : Nat) (v : Value) (t : WT) (cs : List Value) (x : Val) (w : World) (c : Wi w base h g v t) (hx : valR w (fun b => base ≤ b) cs x) (hf : fVal x) (hm : t.1.length + cVal x ≤ 1000000000) :
    Calls Try.prog 22 #[.pointer (some ⟨h, 0, none⟩), .agg cs.toArray] w fun e w' => e = .returned (.tuple #[]) ∧ ∃ v' t', Ki w base h g v w' v' t' ∧ Wri valF (cVal x) t x t' := by
  obtain rfl := hx
  unfold cVal at hm
  refine enter ok Try.func22 rfl rfl rfl ?_
  refine seq_cut (σ := Unit) (fun _ => [(0, .pointer (some ⟨h, 0, none⟩)), (3, .pointer (some ⟨w.heap.size, 0, none⟩))]) (fun _ w' => New w w' ∧ w'.heap[w.heap.size]? = some (.cells #[zi x.kind, zi x.n] 61 (0, 0))) ?_ ?_
  rotate_left
  · intro K hK
    exact hK () _ _ ⟨rfl, rfl, trivial⟩ ⟨New.alloc w _, heap_alloc_new w (.cells #[zi x.kind, zi x.n] 61)⟩
  rintro _ w1 fr1 ⟨n1, hX1⟩
  have c1 := c.new n1
  have hXh := c.hi (Nat.le_refl w.heap.size)
  refine seq_cut (σ := Value × WT) (fun _ => [(0, .pointer (some ⟨h, 0, none⟩)), (3, .pointer (some ⟨w.heap.size, 0, none⟩))]) (fun s w' => Ki w1 base h g v w' s.1 s.2 ∧ Wri (num 1 false Image.w1) 1 t x.kind s.2 ∧ w'.heap[w.heap.size]? = some (.cells #[zi x.kind, zi x.n] 61 (0, 0))) ?_ ?_
  rotate_left
  · intro K hK
    refine draw_ (w := w1) ok (.q 0 (.q 1 (.q 2 (.q 3 (.q 4 (.q 5 (.q 6 (.e 7 (.e 8 (.e 9 .done)))))))))) [9] (fun w'' : World => w''.heap[h]? = some (.cells #[.pointer (some ⟨g, 0, none⟩), .bool t.2] 55 (0, 0)) ∧ w''.heap[w.heap.size]? = some (.cells #[zi x.kind, zi x.n] 61 (0, 0))) (by kernel_rfl) (by kernel_rfl) (by kernel_rfl) (by kernel_rfl) (by kernel_rfl) ⟨(New.drew w1).blk c1.blk, (New.drew w1).blk hX1⟩ ?_
    refine Exists.intro (some ⟨g, 0, none⟩) (And.intro (fun w'' hw => cellB hw.1 rfl) ?_)
    refine Exists.intro x.kind (And.intro (fun w'' hw => cellB hw.2 rfl) ?_)
    have cd := c1.new (New.drew w1)
    have hXd := (New.drew w1).blk hX1
    have na := New.alloc w1.drew (.cells #[.int .i64 x.kind] 3)
    refine eff_build (xs := [zi x.kind]) rfl rfl rfl rfl rfl rfl rfl rfl rfl ?_
    refine Exists.intro (fun w'' : World => w''.heap[h]? = some (.cells #[.pointer (some ⟨g, 0, none⟩), .bool t.2] 55 (0, 0)) ∧ w''.heap[w.heap.size]? = some (.cells #[zi x.kind, zi x.n] 61 (0, 0))) ?_
    refine And.intro (fun _ h => h) ?_
    refine And.intro (show (w1.drew.alloc (.cells #[.int .i64 x.kind] 3)).heap[h]? = some (.cells #[.pointer (some ⟨g, 0, none⟩), .bool t.2] 55 (0, 0)) ∧ (w1.drew.alloc (.cells #[.int .i64 x.kind] 3)).heap[w.heap.size]? = some (.cells #[zi x.kind, zi x.n] 61 (0, 0)) from ⟨na.blk cd.blk, na.blk hXd⟩) ?_
    refine call_ (WUn base h g v t 1 x.kind w1.drew cd (by omega)) ?_
    rintro e w3 ⟨rfl, v3, k3⟩
    refine ⟨_, rfl, ?_⟩
    have hX3 := k3.mod.blk hXd hXh
    refine Exists.intro (fun w'' : World => w''.heap[h]? = some (.cells #[.pointer (some ⟨g, 0, none⟩), .bool t.2] 55 (0, 0)) ∧ w''.heap[w.heap.size]? = some (.cells #[zi x.kind, zi x.n] 61 (0, 0))) ?_
    refine And.intro (fun _ h => h) ?_
    refine And.intro (show w3.heap[h]? = some (.cells #[.pointer (some ⟨g, 0, none⟩), .bool t.2] 55 (0, 0)) ∧ w3.heap[w.heap.size]? = some (.cells #[zi x.kind, zi x.n] 61 (0, 0)) from ⟨k3.wi.blk, hX3⟩) ?_
    refine call_ (note_ok base h g v3 _ (allErr (1 : Nat) false [x.kind]) w3 k3.wi) ?_
    rintro e w4 ⟨rfl, k4⟩
    refine ⟨_, rfl, ?_⟩
    have kk := k3.then k4
    dsimp only at kk
    rw [allErr_good] at kk
    refine hK (v3, noteS t 1 false [x.kind]) _ _ ⟨rfl, rfl, trivial⟩ ⟨((Ki.refl c1).new (New.drew w1)).then kk, Wri.num Image.w1 fun h => fits_small (.inl rfl) h, k4.mod.blk hX3 ?_⟩
    rintro ((e | e) | e)
    · exact hXh (.inl (.inl e))
    · rcases k3.st _ e.symm with e | e
      · exact hXh (.inl (.inr e.symm))
      · have h1 := (Array.getElem?_eq_some_iff.1 hXd).1
        omega
    · exact hXh (.inr e)
  rintro ⟨v2, t2⟩ w2 fr2 ⟨k2, wr2, hX2⟩
  dsimp only at k2 wr2
  have hl2 := wr2.1
  refine Exists.intro x.n (And.intro (cellB hX2 rfl) ?_)
  refine call_ (numbers1_ok base h g v2 t2 [x.n] 1 w2 k2.wi rfl (by simp; omega)) ?_
  rintro e w3 ⟨rfl, v3, k3⟩
  refine ⟨_, rfl, ?_⟩
  exact ⟨rfl, v3, _, (((Ki.refl c).new n1).then k2).then k3, wri_val wr2 (Wri.num w8 fun _ => hf)⟩
theorem list_int (base h g : Nat) (v : Value) (t : WT) (vl : Value) (xs : List Int) (w : World) (c : Wi w base h g v t) (hl : LRep intR w (fun b => base ≤ b) vl xs) (hf : ∀ x ∈ xs, i64 x) (hm : t.1.length + (4 + csum cInt xs) ≤ 1000000000) :
    Calls Try.prog 19 #[.pointer (some ⟨h, 0, none⟩), vl, .func (.func 20) #[.pointer (some ⟨h, 0, none⟩)] #[]] w fun e w' => e = .returned (.tuple #[]) ∧ ∃ v' t', Ki w base h g v w' v' t' ∧ Wri (list 4 Image.w4 n8) (4 + csum cInt xs) t xs t' := by
  obtain ⟨Al, cl, rfl, h43, _⟩ := hl.get intOk (by decide)
  refine enter ok Try.func19 rfl rfl rfl ?_
  refine seq_cut (σ := Value × WT) (fun _ => [(1, .slice Al xs.length cl), (2, .func (.func 20) #[.pointer (some ⟨h, 0, none⟩)] #[])]) (fun s w' => Ki w base h g v w' s.1 s.2 ∧ Wri (num 4 false Image.w4) 4 t (xs.length : Int) s.2) ?_ ?_
  rotate_left
  · intro K hK
    refine Exists.intro (some ⟨g, 0, none⟩) (And.intro (cellB c.blk rfl) ?_)
    refine call_ (WUn base h g v t 4 (xs.length : Int) w c (by omega)) ?_
    rintro e w3 ⟨rfl, v3, k3⟩
    refine ⟨_, rfl, ?_⟩
    refine call_ (note_ok base h g v3 _ (allErr (4 : Nat) false [(xs.length : Int)]) w3 k3.wi) ?_
    rintro e w4 ⟨rfl, k4⟩
    refine ⟨_, rfl, ?_⟩
    have kk := k3.then k4
    dsimp only at kk
    rw [allErr_good] at kk
    exact hK (v3, noteS t 4 false [(xs.length : Int)]) _ _ ⟨rfl, rfl, trivial⟩ ⟨kk, Wri.num Image.w4 fun h => fits_small (.inr (.inr rfl)) h⟩
  rintro ⟨v2, t2⟩ w2 fr2 ⟨k2, wr2⟩
  dsimp only at k2 wr2
  refine seq_cut (σ := Unit) (fun _ => [(2, .func (.func 20) #[.pointer (some ⟨h, 0, none⟩)] #[]), (18, .slice Al xs.length cl), (19, .int .i64 (xs.length : Int)), (20, .int .i64 0)]) (fun _ w' => w' = w2) ?_ ?_
  rotate_left
  · intro K hK
    exact hK () _ _ ⟨rfl, rfl, rfl, rfl, trivial⟩ rfl
  rintro _ wy fry hwy
  obtain rfl := hwy.symm
  refine den_loop (σ := Nat × Value × WT) (fun s => [(2, .func (.func 20) #[.pointer (some ⟨h, 0, none⟩)] #[]), (18, .slice Al xs.length cl), (19, .int .i64 (xs.length : Int)), (20, .int .i64 (s.1 : Int))])
    (fun m s wl => m + s.1 = xs.length ∧ Ki w base h g v wl s.2.1 s.2.2 ∧ WLst n8 cInt t xs s.1 s.2.2) xs.length (0, v2, t2) ⟨rfl, rfl, rfl, rfl, trivial⟩ ⟨rfl, k2, WLst.start wr2⟩ ?_
  rintro m ⟨i, v3, t3⟩ wl frl ⟨hfuel, kl, hw⟩
  dsimp only at hfuel kl hw
  refine if_p (fun hlt => ?_) (fun hge => ?_)
  · replace hlt : (i : Int) < (xs.length : Int) := hlt
    have hi : i < xs.length := by omega
    obtain ⟨m, rfl⟩ : ∃ m', m = m' + 1 := ⟨m - 1, by omega⟩
    have inc := incN hi h43
    obtain ⟨Al', cl', he, _, gx⟩ := (LRep.mod intOk (by decide) hl (kl.old c)).get intOk (by decide)
    cases he
    obtain ⟨a, cs, ea, hx, hc⟩ := gx i hi
    have hcs : csum cInt (xs.take i) + cInt xs[i] ≤ csum cInt xs := by
      have h1 := csum_le cInt xs (i + 1)
      rw [List.take_succ_eq_append_getElem hi, csum_snoc] at h1
      exact h1
    have hw1 := hw.1
    obtain ⟨y, hy⟩ : ∃ y, y = xs[i] := ⟨_, rfl⟩
    have hfy : i64 y := by rw [hy]; exact hf _ (List.getElem_mem hi)
    rw [← hy] at hx hcs
    have hx0 := hx
    obtain rfl := hx
    refine And.intro (by omega) (And.intro hlt ?_)
    refine some_at ea ?_
    refine Exists.intro y (And.intro (by have := hc 0 _ rfl; rw [add_zero_] at this; rw [Int.toNat_natCast]; exact this) ?_)
    refine call_ (wnumber_ok base h g v3 t3 [zi y] y wl kl.wi hx0 hfy (by omega)) ?_
    rintro e w6 ⟨rfl, v6, t6, k6, wr6⟩
    refine ⟨_, rfl, ?_⟩
    exact ⟨m, (i + 1, v6, t6), by omega, ⟨rfl, rfl, rfl, inc, trivial⟩, by dsimp only; omega, kl.then k6, hw.step hi (by rw [← hy]; exact wr6)⟩
  · replace hge : ¬ (i : Int) < (xs.length : Int) := hge
    obtain rfl : i = xs.length := by omega
    exact ⟨rfl, v3, t3, kl, hw.done⟩
theorem list_val (base h g : Nat) (v : Value) (t : WT) (vl : Value) (xs : List Val) (w : World) (c : Wi w base h g v t) (hl : LRep valR w (fun b => base ≤ b) vl xs) (hf : ∀ x ∈ xs, fVal x) (hm : t.1.length + (4 + csum cVal xs) ≤ 1000000000) :
    Calls Try.prog 21 #[.pointer (some ⟨h, 0, none⟩), vl, .func (.func 22) #[.pointer (some ⟨h, 0, none⟩)] #[]] w fun e w' => e = .returned (.tuple #[]) ∧ ∃ v' t', Ki w base h g v w' v' t' ∧ Wri (list 4 Image.w4 valF) (4 + csum cVal xs) t xs t' := by
  obtain ⟨Al, cl, rfl, h43, _⟩ := hl.get valOk (by decide)
  refine enter ok Try.func21 rfl rfl rfl ?_
  refine seq_cut (σ := Value × WT) (fun _ => [(1, .slice Al xs.length cl), (2, .func (.func 22) #[.pointer (some ⟨h, 0, none⟩)] #[])]) (fun s w' => Ki w base h g v w' s.1 s.2 ∧ Wri (num 4 false Image.w4) 4 t (xs.length : Int) s.2) ?_ ?_
  rotate_left
  · intro K hK
    refine Exists.intro (some ⟨g, 0, none⟩) (And.intro (cellB c.blk rfl) ?_)
    refine call_ (WUn base h g v t 4 (xs.length : Int) w c (by omega)) ?_
    rintro e w3 ⟨rfl, v3, k3⟩
    refine ⟨_, rfl, ?_⟩
    refine call_ (note_ok base h g v3 _ (allErr (4 : Nat) false [(xs.length : Int)]) w3 k3.wi) ?_
    rintro e w4 ⟨rfl, k4⟩
    refine ⟨_, rfl, ?_⟩
    have kk := k3.then k4
    dsimp only at kk
    rw [allErr_good] at kk
    exact hK (v3, noteS t 4 false [(xs.length : Int)]) _ _ ⟨rfl, rfl, trivial⟩ ⟨kk, Wri.num Image.w4 fun h => fits_small (.inr (.inr rfl)) h⟩
  rintro ⟨v2, t2⟩ w2 fr2 ⟨k2, wr2⟩
  dsimp only at k2 wr2
  refine seq_cut (σ := Unit) (fun _ => [(2, .func (.func 22) #[.pointer (some ⟨h, 0, none⟩)] #[]), (18, .slice Al xs.length cl), (19, .int .i64 (xs.length : Int)), (20, .int .i64 0)]) (fun _ w' => w' = w2) ?_ ?_
  rotate_left
  · intro K hK
    exact hK () _ _ ⟨rfl, rfl, rfl, rfl, trivial⟩ rfl
  rintro _ wy fry hwy
  obtain rfl := hwy.symm
  refine den_loop (σ := Nat × Value × WT) (fun s => [(2, .func (.func 22) #[.pointer (some ⟨h, 0, none⟩)] #[]), (18, .slice Al xs.length cl), (19, .int .i64 (xs.length : Int)), (20, .int .i64 (s.1 : Int))])
    (fun m s wl => m + s.1 = xs.length ∧ Ki w base h g v wl s.2.1 s.2.2 ∧ WLst valF cVal t xs s.1 s.2.2) xs.length (0, v2, t2) ⟨rfl, rfl, rfl, rfl, trivial⟩ ⟨rfl, k2, WLst.start wr2⟩ ?_
  rintro m ⟨i, v3, t3⟩ wl frl ⟨hfuel, kl, hw⟩
  dsimp only at hfuel kl hw
  refine if_p (fun hlt => ?_) (fun hge => ?_)
  · replace hlt : (i : Int) < (xs.length : Int) := hlt
    have hi : i < xs.length := by omega
    obtain ⟨m, rfl⟩ : ∃ m', m = m' + 1 := ⟨m - 1, by omega⟩
    have inc := incN hi h43
    obtain ⟨Al', cl', he, _, gx⟩ := (LRep.mod valOk (by decide) hl (kl.old c)).get valOk (by decide)
    cases he
    obtain ⟨a, cs, ea, hx, hc⟩ := gx i hi
    have hcs : csum cVal (xs.take i) + cVal xs[i] ≤ csum cVal xs := by
      have h1 := csum_le cVal xs (i + 1)
      rw [List.take_succ_eq_append_getElem hi, csum_snoc] at h1
      exact h1
    have hw1 := hw.1
    obtain ⟨y, hy⟩ : ∃ y, y = xs[i] := ⟨_, rfl⟩
    have hfy : fVal y := by rw [hy]; exact hf _ (List.getElem_mem hi)
    rw [← hy] at hx hcs
    have hx0 := hx
    obtain rfl := hx
    refine And.intro (by omega) (And.intro hlt ?_)
    refine some_at ea ?_
    refine loadN_row (vs := [zi y.kind, zi y.n]) (fun j u hu => by rw [Int.toNat_natCast]; exact hc j u hu) rfl ?_
    refine And.intro rfl ?_
    refine storeNew (vs := [zi y.kind, zi y.n]) (arr := #[zi 0, zi 0]) rfl (valOk.one hx0) ?_
    intro w5 hb5 n5 s5
    refine loadN_row (vs := [zi y.kind, zi y.n]) (rowB hb5) rfl ?_
    refine call_ (wvalue_ok base h g v3 t3 [zi y.kind, zi y.n] y w5 (kl.wi.new n5) (valOk.mod hx0 n5.mod) hfy (by omega)) ?_
    rintro e w6 ⟨rfl, v6, t6, k6, wr6⟩
    refine ⟨_, rfl, ?_⟩
    exact ⟨m, (i + 1, v6, t6), by omega, ⟨rfl, rfl, rfl, inc, trivial⟩, by dsimp only; omega, (kl.new n5).then k6, hw.step hi (by rw [← hy]; exact wr6)⟩
  · replace hge : ¬ (i : Int) < (xs.length : Int) := hge
    obtain rfl : i = xs.length := by omega
    exact ⟨rfl, v3, t3, kl, hw.done⟩

end Go.Proofs.Yteanhakkceancaa.Image
