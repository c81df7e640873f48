/- The texts KWrite4, KRef5, KBytes, KWrite5, KPrint, KRef6, KRead1 behind one another, merged by mrg.py; each says in its own place what it proves. -/
import Derived.Test.YtdcaafldnbcdkaaGreatDoorGZ3

/-! ### KWrite4 -/
namespace Go.Proofs.YtdcaafldnbcdkaaGreatDoor.Class
open Go Go.Proofs.YtdcaafldnbcdkaaGreatDoor Go.Proofs.YtdcaafldnbcdkaaGreatDoor.Eng Go.Proofs Go.Proofs.YtdcaafldnbcdkaaGreatDoor.Word Go.Proofs.YtdcaafldnbcdkaaGreatDoor.Fmt
open Go.Proofs.YtdcaafldnbcdkaaGreatDoor.Pool (Ent at_ poolF strV entC entV EntOk Pl OkPool both own_low tagAt)
set_option maxRecDepth 10000

theorem Ki.also {S : Nat → Prop} {w w1 w2 w3 : World} {base h g : Nat} {p : Po} {v v1 v3 : Value} {t1 t3 : WT} (k : Ki w base p h g v w1 v1 t1) (m : Mod S w1 w2) (hS : ∀ b, S b → w.heap.size ≤ b) (k2 : Ki w2 base p h g v1 w3 v3 t3) : Ki w base p h g v w3 v3 t3 := by
  refine ⟨k2.wi, Mod.trans (Mod.trans (S := WH h g v) k.mod m fun b hb e => ?_) k2.mod ?_, stayed.trans k.st (Nat.le_trans k.mod.size m.size) k2.st⟩
  · have := hS b e
    omega
  rintro b hb ((e | e) | e)
  · exact .inl (.inl e)
  · rcases k.st b e.symm with h1 | h1
    · exact .inl (.inr h1.symm)
    · omega
  · exact .inr e
theorem LRep.up {α : Type} {R : RepT α} {sz : Nat} {w w' : World} {S S' : Nat → Prop} {vl : Value} {xs : List α} (hR : RepOk R sz) (hsz : 0 < sz) (hl : LRep R w S vl xs) (n : New w w') (hS : ∀ b, S' b → w.heap.size ≤ b) : LRep R w' S' vl xs := by
  have h1 := LRep.weak (S' := fun b => w.heap.size ≤ b) hR hl fun b hb e => absurd hb (by omega)
  exact LRep.weak hR (LRep.mod hR hsz h1 (n.mod.mono fun _ _ e => False.elim e)) fun b _ e => hS b e
theorem rep_up {α : Type} {R : RepT α} {sz : Nat} {w w' : World} {S S' : Nat → Prop} {cs : List Value} {x : α} (hR : RepOk R sz) (hl : R w S cs x) (n : New w w') (hS : ∀ b, S' b → w.heap.size ≤ b) : R w' S' cs x := by
  have h1 := hR.weak (S' := fun b => w.heap.size ≤ b) hl fun b hb e => absurd hb (by omega)
  exact hR.weak (hR.mod h1 (n.mod.mono fun _ _ e => False.elim e)) fun b _ e => hS b e
theorem hnd1_ok (p : Po) (base : Nat) (h g : Nat) (v : Value) (t : WT) (cs : List Value) (x : Hnd) (X : Nat) (w : World) (c : Wi w base p h g v t) (hX : w.heap[X]? = some (.cells #[.pointer (some ⟨h, 0, none⟩)] 104 (0, 0))) (hXn : ¬ WH h g v X) (hx : hndR w (WH h g v) cs x) (hm : t.1.length + cHnd x ≤ 1000000000) :
    Calls Tryz.prog 90 #[.agg cs.toArray, .pointer (some ⟨X, 0, none⟩)] w fun e w' => e = .returned (.tuple #[]) ∧ ∃ v' t', Ki w base p h g v w' v' t' ∧ Wri (hndT p.l) (cHnd x) t x t' := by
  obtain rfl := hx
  unfold cHnd at hm
  refine enter ok Tryz.func90 rfl rfl rfl ?_
  obtain ⟨M, hM⟩ : ∃ M, M = w.heap.size := ⟨_, rfl⟩
  refine seq_cut (σ := Unit) (fun _ => [(1, .pointer (some ⟨X, 0, none⟩)), (2, .pointer (some ⟨M, 0, none⟩))]) (fun _ w' => New w w' ∧ w'.heap[M]? = some (.cells #[zi x.from_, zi x.to, zi x.at_, zi x.cls] 92 (0, 0))) ?_ ?_
  rotate_left
  · intro K hK
    rw [hM] at hK
    exact hK () _ _ ⟨rfl, rfl, trivial⟩ ⟨New.alloc w _, heap_alloc_new w (.cells #[zi x.from_, zi x.to, zi x.at_, zi x.cls] 92)⟩
  rintro _ w0 fr0 ⟨n0, hM0⟩
  have c0 := c.new n0
  have hX0 := n0.blk hX
  have hMn : ¬ WH h g v M := c.hi (by omega)
  refine seq_cut (σ := Bool) (fun _ => [(1, .pointer (some ⟨X, 0, none⟩)), (2, .pointer (some ⟨M, 0, none⟩))]) (fun b w' => Ki w0 base p h g v w' v (t.1, t.2 || !b) ∧ (b = true ↔ x.cls = 0 ∨ 0 < x.cls ∧ x.cls < (p.l.length : Int) ∧ (at_ p.l x.cls).tag = 7)) ?_ ?_
  rotate_left
  · intro K hK
    have nd := New.drew w0
    have fin : ∀ b : Bool, (b = true ↔ x.cls = 0 ∨ 0 < x.cls ∧ x.cls < (p.l.length : Int) ∧ (at_ p.l x.cls).tag = 7) → ∀ K' : Value → World → Prop, (∀ w', Ki w0 base p h g v w' v (t.1, t.2 || !b) → K' (.tuple #[]) w') → callQ Tryz.prog 54 [.pointer (some ⟨h, 0, none⟩), .bool b] w0.drew K' := fun b hb K' hK' => by
      refine call_ (must_ok base p h g v t b w0.drew (c0.new nd)) ?_
      rintro e w2 ⟨rfl, k2⟩
      exact ⟨_, rfl, hK' w2 (((Ki.refl c0).new nd).then k2)⟩
    refine draw_ (w := w0) ok (.q 0 (.q 1 (.q 2 (.q 3 (.q 4 (.q 5 (.q 6 (.q 7 (.q 8 (.q 9 (.q 10 (.q 11 (.q 12 (.q 13 (.q 14 (.q 15 (.q 16 (.q 17 (.q 18 (.q 19 (.q 20 (.q 21 (.q 22 (.q 23 (.q 24 (.q 25 (.q 26 (.q 27 (.q 28 (.q 29 (.q 30 (.e 31 .done)))))))))))))))))))))))))))))))) [31] (New w0) (by kernel_rfl) (by kernel_rfl) (by kernel_rfl) (by kernel_rfl) (by kernel_rfl) nd ?_
    refine Exists.intro (some ⟨h, 0, none⟩) (And.intro (fun w'' hw => cell0 (hw.blk hX0)) ?_)
    refine Exists.intro x.cls (And.intro (fun w'' hw => cellB (hw.blk hM0) rfl) ?_)
    refine if_p (fun h0 => ?_) (fun h0 => ?_)
    · replace h0 : x.cls = 0 := h0
      exact fin true ⟨fun _ => .inl h0, fun _ => rfl⟩ _ fun w' k' => hK true _ _ ⟨rfl, rfl, trivial⟩ ⟨k', ⟨fun _ => .inl h0, fun _ => rfl⟩⟩
    · replace h0 : ¬ x.cls = 0 := h0
      refine Exists.intro x.cls (And.intro (fun w'' hw => cellB (hw.blk hM0) rfl) ?_)
      refine if_p (fun h1 => ?_) (fun h1 => ?_)
      · replace h1 : 0 < x.cls := h1
        refine Exists.intro x.cls (And.intro (fun w'' hw => cellB (hw.blk hM0) rfl) ?_)
        refine Exists.intro (some ⟨h, 0, none⟩) (And.intro (fun w'' hw => cell0 (hw.blk hX0)) ?_)
        refine Exists.intro p.A (Exists.intro p.l.length (Exists.intro p.c (And.intro (fun w'' hw => cellB (hw.blk c0.blk) rfl) ?_)))
        refine if_p (fun h2 => ?_) (fun h2 => ?_)
        · replace h2 : x.cls < (p.l.length : Int) := h2
          have hi : x.cls.toNat < p.l.length := by omega
          obtain ⟨a, ea, hok, hc⟩ := c0.cx.pl.at_ hi
          have e1 : at_ p.l ((x.cls.toNat : Nat) : Int) = at_ p.l x.cls := by rw [Int.toNat_of_nonneg (by omega)]
          rw [e1] at hc
          refine Exists.intro (some ⟨h, 0, none⟩) (And.intro (fun w'' hw => cell0 (hw.blk hX0)) ?_)
          refine Exists.intro p.A (Exists.intro p.l.length (Exists.intro p.c (And.intro (fun w'' hw => cellB (hw.blk c0.blk) rfl) ?_)))
          refine Exists.intro x.cls (And.intro (fun w'' hw => cellB (hw.blk hM0) rfl) ?_)
          refine And.intro (by omega) (And.intro h2 ?_)
          refine some_at ea ?_
          refine Exists.intro (at_ p.l x.cls).tag (And.intro (fun w'' hw => hw.cell (by have := hc 0 _ rfl; rw [add_zero_] at this ⊢; exact this)) ?_)
          have hb : decide ((at_ p.l x.cls).tag = 7) = true ↔ x.cls = 0 ∨ 0 < x.cls ∧ x.cls < (p.l.length : Int) ∧ (at_ p.l x.cls).tag = 7 := by
            rw [decide_eq_true_eq]
            exact ⟨fun e => .inr ⟨h1, h2, e⟩, fun e => (e.resolve_left h0).2.2⟩
          exact fin _ hb _ fun w' k' => hK _ _ _ ⟨rfl, rfl, trivial⟩ ⟨k', hb⟩
        · replace h2 : ¬ x.cls < (p.l.length : Int) := h2
          have hb : false = true ↔ x.cls = 0 ∨ 0 < x.cls ∧ x.cls < (p.l.length : Int) ∧ (at_ p.l x.cls).tag = 7 := ⟨fun e => (by cases e), fun e => absurd (e.resolve_left h0).2.1 h2⟩
          exact fin false hb _ fun w' k' => hK false _ _ ⟨rfl, rfl, trivial⟩ ⟨k', hb⟩
      · replace h1 : ¬ 0 < x.cls := h1
        have hb : false = true ↔ x.cls = 0 ∨ 0 < x.cls ∧ x.cls < (p.l.length : Int) ∧ (at_ p.l x.cls).tag = 7 := ⟨fun e => (by cases e), fun e => absurd (e.resolve_left h0).1 h1⟩
        exact fin false hb _ fun w' k' => hK false _ _ ⟨rfl, rfl, trivial⟩ ⟨k', hb⟩
  rintro b w1 fr1 ⟨k1, hb⟩
  have hX1 := k1.blk hX0 hXn
  have hM1 := k1.blk hM0 hMn
  refine Exists.intro (some ⟨h, 0, none⟩) (And.intro (cell0 hX1) ?_)
  refine Exists.intro x.from_ (And.intro (cellB hM1 rfl) ?_)
  refine Exists.intro x.to (And.intro (cellB hM1 rfl) ?_)
  refine Exists.intro x.at_ (And.intro (cellB hM1 rfl) ?_)
  refine Exists.intro x.cls (And.intro (cellB hM1 rfl) ?_)
  refine call_ (two1_ok base p h g v _ [x.from_, x.to, x.at_, x.cls] 4 w1 k1.wi rfl (by simp; omega)) ?_
  rintro e w2 ⟨rfl, v2, k2⟩
  refine ⟨_, rfl, ?_⟩
  exact ⟨rfl, v2, _, (((Ki.refl c).new n0).then k1).then k2, Wri.by Wri.four rfl hb⟩
theorem list_hnd (p : Po) (base : Nat) (h g : Nat) (v : Value) (t : WT) (vl : Value) (xs : List Hnd) (X : Nat)  (w : World) (c : Wi w base p h g v t) (hO : OkPool p.l) (hl : LRep hndR w (WH h g v) vl xs) (hX : w.heap[X]? = some (.cells #[.pointer (some ⟨h, 0, none⟩)] 104 (0, 0))) (hXn : ¬ WH h g v X)  (hm : t.1.length + (2 + csum cHnd xs) ≤ 1000000000) :
    Calls Tryz.prog 89 #[.pointer (some ⟨h, 0, none⟩), vl, zi 256, .func (.func 90) #[] #[.pointer (some ⟨X, 0, none⟩)]] w fun e w' => e = .returned (.tuple #[]) ∧ ∃ v' t', Ki w base p h g v w' v' t' ∧ Wri (hndsT p.l) (2 + csum cHnd xs) t xs t' := by
  obtain ⟨Al, cl, rfl, h43, _⟩ := hl.get hndOk (by decide)
  refine enter ok Tryz.func89 rfl rfl rfl ?_
  refine seq_cut (σ := Unit) (fun _ => [(0, .pointer (some ⟨h, 0, none⟩)), (1, .slice Al xs.length cl), (3, .func (.func 90) #[] #[.pointer (some ⟨X, 0, none⟩)])]) (fun _ w' => Ki w base p h g v w' v (t.1, t.2 || !decide (xs.length ≤ 256))) ?_ ?_
  rotate_left
  · intro K hK
    refine call_ (must_ok base p h g v t (decide ((xs.length : Int) ≤ 256)) w c) ?_
    rintro e w1 ⟨rfl, k1⟩
    refine ⟨_, rfl, ?_⟩
    have e1 : decide ((xs.length : Int) ≤ 256) = decide (xs.length ≤ 256) := decide_eq_decide.2 (by omega)
    rw [e1] at k1
    exact hK () _ _ ⟨rfl, rfl, rfl, trivial⟩ k1
  rintro _ w1 fr1 k1
  refine seq_cut (σ := Value × WT) (fun _ => [(0, .pointer (some ⟨h, 0, none⟩)), (1, .slice Al xs.length cl), (3, .func (.func 90) #[] #[.pointer (some ⟨X, 0, none⟩)])]) (fun s w' => Ki w base p h g v w' s.1 s.2 ∧ Wri n2 2 (t.1, t.2 || !decide (xs.length ≤ 256)) (xs.length : Int) s.2) ?_ ?_
  rotate_left
  · intro K hK
    refine Exists.intro (t.2 || !decide (xs.length ≤ 256)) (And.intro (cellB k1.wi.blk rfl) ?_)
    cases hbad : (t.2 || !decide (xs.length ≤ 256)) with
    | true =>
      rw [hbad] at k1 hK
      exact hK (v, (t.1, true)) _ _ ⟨rfl, rfl, rfl, trivial⟩ ⟨k1, Wri.bad rfl _ _⟩
    | false =>
      rw [hbad] at k1 hK
      refine call_ (two1_ok base p h g v (t.1, false) [(xs.length : Int)] 1 w1 k1.wi rfl (by simp; omega)) ?_
      rintro e w2 ⟨rfl, v2, k2⟩
      refine ⟨_, rfl, ?_⟩
      exact hK (v2, _) _ _ ⟨rfl, rfl, rfl, trivial⟩ ⟨k1.then k2, Wri.n2⟩
  rintro ⟨v2, t2⟩ w2 fr2 ⟨k2, wr2⟩
  dsimp only at k2 wr2
  refine seq_cut (σ := Unit) (fun _ => [(0, .pointer (some ⟨h, 0, none⟩)), (3, .func (.func 90) #[] #[.pointer (some ⟨X, 0, none⟩)]), (26, .slice Al xs.length cl), (27, zi (xs.length : Int)), (28, zi 0)]) (fun _ w' => w' = w2) ?_ ?_
  rotate_left
  · intro K hK
    exact hK () _ _ ⟨rfl, rfl, rfl, rfl, rfl, trivial⟩ rfl
  rintro _ wy fry hwy
  obtain rfl := hwy.symm
  refine den_loop (σ := Nat × Value × WT) (fun s => [(0, .pointer (some ⟨h, 0, none⟩)), (3, .func (.func 90) #[] #[.pointer (some ⟨X, 0, none⟩)]), (26, .slice Al xs.length cl), (27, zi (xs.length : Int)), (28, zi (s.1 : Int))])
    (fun m s wl => m + s.1 = xs.length ∧ Ki w base p h g v wl s.2.1 s.2.2 ∧ WLst (hndT p.l) 256 cHnd t xs s.1 s.2.2) xs.length (0, v2, t2) ⟨rfl, rfl, rfl, rfl, rfl, trivial⟩ ⟨rfl, k2, WLst.start (by decide) wr2⟩ ?_
  rintro m ⟨i, v3, t3⟩ wl frl ⟨hfuel, kl, hw⟩
  dsimp only at hfuel kl hw
  refine if_p (fun hlt => ?_) (fun hge => ?_)
  · replace hlt : (i : Int) < (xs.length : Int) := hlt
    have hi : i < xs.length := by omega
    obtain ⟨m, rfl⟩ : ∃ m', m = m' + 1 := ⟨m - 1, by omega⟩
    have inc := incN hi h43
    obtain ⟨Al', cl', he, _, gx⟩ := (kl.lrep hndOk (by decide) hl).get hndOk (by decide)
    cases he
    obtain ⟨a, cs, ea, hx, hc⟩ := gx i hi
    have hcs : csum cHnd (xs.take i) + cHnd xs[i] ≤ csum cHnd xs := by
      have h1 := csum_le cHnd xs (i + 1)
      rw [List.take_succ_eq_append_getElem hi, csum_snoc] at h1
      exact h1
    have hw1 := hw.1
    have hmem : xs[i] ∈ xs := List.getElem_mem hi
    obtain ⟨y, hy⟩ : ∃ y, y = xs[i] := ⟨_, rfl⟩
    rw [← hy] at hx hcs hmem
    have hx0 := hx
    obtain rfl := hx
    refine And.intro (by omega) (And.intro hlt ?_)
    refine some_at ea ?_
    refine loadN_row (vs := [zi y.from_, zi y.to, zi y.at_, zi y.cls]) (fun j u hu => by rw [Int.toNat_natCast]; exact hc j u hu) rfl ?_
    refine And.intro rfl ?_
    refine storeNew (vs := [zi y.from_, zi y.to, zi y.at_, zi y.cls]) (arr := #[zi 0, zi 0, zi 0, zi 0]) rfl (hndOk.one hx0) ?_
    intro w5 hb5 n5 s5
    have k5 := kl.new n5
    refine Exists.intro t3.2 (And.intro (cellB k5.wi.blk rfl) ?_)
    refine if_ (fun hbad => ?_) (fun hbad => ?_)
    · exact ⟨rfl, v3, t3, k5, hw.stop hbad⟩
    refine skip_ (thenF_ ?_)
    refine loadN_row (vs := [zi y.from_, zi y.to, zi y.at_, zi y.cls]) (rowB hb5) rfl ?_
    refine call_ (hnd1_ok p base h g v3 t3 _ y X w5 k5.wi (n5.blk (kl.blk hX hXn)) (kl.hid (Array.getElem?_eq_some_iff.1 hX).1 hXn) (hndOk.mod hx0 n5.mod) (by omega)) ?_
    rintro e w6 ⟨rfl, v6, t6, k6, wr6⟩
    refine ⟨_, rfl, ?_⟩
    exact ⟨m, (i + 1, v6, t6), by omega, ⟨rfl, rfl, rfl, rfl, inc, trivial⟩, by dsimp only; omega, k5.then k6, hw.step hi (by rw [← hy]; exact wr6)⟩
  · replace hge : ¬ (i : Int) < (xs.length : Int) := hge
    obtain rfl : i = xs.length := by omega
    exact ⟨rfl, v3, t3, kl, hw.done⟩

theorem add_ok (p : Po) (base : Nat) (h g : Nat) (v : Value) (t : WT) (h' g' : Nat) (v' : Value) (tp : WT) (w : World) (c : Wi w base p h g v t) (c' : Wi w base p h' g' v' tp) (hd : ∀ b, WH h' g' v' b → ¬ WH h g v b) (hm : t.1.length + (4 + tp.1.length) ≤ 1000000000) :
    Calls Tryz.prog 60 #[.pointer (some ⟨h, 0, none⟩), .pointer (some ⟨h', 0, none⟩)] w fun e w' => e = .returned (.tuple #[]) ∧ ∃ v2, Ki w base p h g v w' v2 (t.1 ++ (enc 4 (tp.1.length : Int) ++ tp.1), t.2 || tp.2) := by
  refine enter ok Tryz.func60 rfl rfl rfl ?_
  refine seq_cut (σ := Unit) (fun _ => [(0, .pointer (some ⟨h, 0, none⟩)), (1, .pointer (some ⟨h', 0, none⟩))]) (fun _ w' => Ki w base p h g v w' v (t.1, t.2 || tp.2)) ?_ ?_
  rotate_left
  · intro K hK
    refine Exists.intro tp.2 (And.intro (cellB c'.blk rfl) ?_)
    refine call_ (must_ok base p h g v t (!tp.2) w c) ?_
    rintro e w1 ⟨rfl, k1⟩
    refine ⟨_, rfl, ?_⟩
    rw [Bool.not_not] at k1
    exact hK () _ _ ⟨rfl, rfl, trivial⟩ k1
  rintro _ w1 fr1 k1
  have part : ∀ {w2 : World} {v2 : Value} {t2 : WT}, Ki w base p h g v w2 v2 t2 → Wi w2 base p h' g' v' tp := fun k => c'.other k.mod fun b _ e => ⟨c.at_ e, fun e' => hd b e' e⟩
  have c1' := part k1
  refine seq_cut (σ := Value) (fun _ => [(0, .pointer (some ⟨h, 0, none⟩)), (1, .pointer (some ⟨h', 0, none⟩))]) (fun v' w' => Ki w base p h g v w' v' (t.1 ++ enc 4 (tp.1.length : Int), t.2 || tp.2)) ?_ ?_
  rotate_left
  · intro K hK
    have nd := New.drew w1
    refine draw_ (w := w1) ok (.q 0 (.q 1 (.q 2 (.q 3 (.q 4 (.q 5 (.q 6 (.q 7 (.e 8 (.e 9 (.e 10 .done))))))))))) [10] (New w1) (by kernel_rfl) (by kernel_rfl) (by kernel_rfl) (by kernel_rfl) (by kernel_rfl) nd ?_
    refine Exists.intro (some ⟨g, 0, none⟩) (And.intro (fun w'' hw => cellB (hw.blk k1.wi.blk) rfl) ?_)
    refine Exists.intro (some ⟨g', 0, none⟩) (And.intro (fun w'' hw => cellB (hw.blk c1'.blk) rfl) ?_)
    refine call_ (Len_ok base g' v' tp.1 w1.drew (c1'.new nd).wr) ?_
    rintro e w2 ⟨rfl, hw2⟩
    obtain rfl := hw2.symm
    refine ⟨_, rfl, ?_⟩
    refine Exists.intro (New w1) ?_
    refine And.intro (fun _ h => h) ?_
    refine And.intro nd ?_
    refine eff_build (xs := [zi (tp.1.length : Int)]) rfl rfl rfl rfl rfl rfl rfl rfl rfl ?_
    refine Exists.intro (New w1) ?_
    refine And.intro (fun _ h => h) ?_
    refine And.intro (nd.trans (New.alloc _ _)) ?_
    refine call_ (WUn base p h g v _ 4 (tp.1.length : Int) w1.drew (k1.wi.new nd) (by dsimp only; omega)) ?_
    rintro e w3 ⟨rfl, v3, k3⟩
    refine ⟨_, rfl, ?_⟩
    have kk := (k1.new nd).then k3
    have e4 := noteU4 (t := (t.1, t.2 || tp.2)) (n := tp.1.length) (by omega)
    have e5 : allBs t.1 ((4 : Nat) : Int) false [(tp.1.length : Int)] = t.1 ++ enc 4 (tp.1.length : Int) := congrArg Prod.fst e4
    dsimp only at kk
    rw [e5] at kk
    exact hK v3 _ _ ⟨rfl, rfl, trivial⟩ kk
  rintro v2 w2 fr2 k2
  have c2' := part k2
  have nd := New.drew w2
  refine draw_ (w := w2) ok (.q 0 (.q 1 (.q 2 (.q 3 (.q 4 (.q 5 (.q 6 (.q 7 (.e 8 (.e 9 .done)))))))))) [9] (New w2) (by kernel_rfl) (by kernel_rfl) (by kernel_rfl) (by kernel_rfl) (by kernel_rfl) nd ?_
  refine Exists.intro (some ⟨g, 0, none⟩) (And.intro (fun w'' hw => cellB (hw.blk k2.wi.blk) rfl) ?_)
  refine Exists.intro (some ⟨g', 0, none⟩) (And.intro (fun w'' hw => cellB (hw.blk c2'.blk) rfl) ?_)
  refine call_ (All_ok base g' v' tp.1 w2.drew (c2'.new nd).wr (by omega)) ?_
  rintro e w3 ⟨u, rfl, own3, n3⟩
  obtain ⟨A3, c3, rfl, _, _, row3, _⟩ := own_slice own3
  refine ⟨_, rfl, ?_⟩
  refine Exists.intro (New w2) ?_
  refine And.intro (fun _ h => h) ?_
  refine And.intro (nd.trans n3) ?_
  have k3 := k2.new (nd.trans n3)
  refine call_ (WBn base p h g v2 _ A3 _ c3 tp.1 w3 k3.wi row3 rfl (by simp [enc_length]; omega)) ?_
  rintro e w4 ⟨rfl, v4, k4⟩
  refine ⟨_, rfl, ?_⟩
  have kk := k3.then k4
  dsimp only at kk
  rw [List.append_assoc] at kk
  exact ⟨rfl, v4, kk⟩
theorem code_ok (p : Po) (base : Nat) (h g : Nat) (v : Value) (t : WT) (cs : List Value) (x : Cod) (w : World) (c : Wi w base p h g v t) (hO : OkPool p.l) (hx : codR w (WH h g v) cs x) (hm : t.1.length + cCod x ≤ 1000000000) :
    Calls Tryz.prog 59 #[.pointer (some ⟨h, 0, none⟩), .agg cs.toArray] w fun e w' => e = .returned (.tuple #[]) ∧ ∃ v' t', Ki w base p h g v w' v' t' ∧ Wri (codT p.l) (cCod x) t x t' := by
  obtain ⟨_, _, _, rfl, hb0, hh0, hm0⟩ := hx
  obtain ⟨Ab, cb, rfl, hnb, _⟩ := hb0.get u8Ok (by decide)
  obtain ⟨Ah, ch, rfl, hnh, _⟩ := hh0.get hndOk (by decide)
  obtain ⟨Am, cm, rfl, hnm, _⟩ := hm0.get mpOk (by decide)
  have hcost : cCod x = 4 + (4 + x.bytes.length) + (2 + csum cHnd x.hands) + (10 + csum cMp x.maps) := rfl
  refine enter ok Tryz.func59 rfl rfl rfl ?_
  obtain ⟨X, hXe⟩ : ∃ X, X = w.heap.size := ⟨_, rfl⟩
  obtain ⟨M, hMe⟩ : ∃ M, M = w.heap.size + 1 := ⟨_, rfl⟩
  refine seq_cut (σ := Unit) (fun _ => [(2, .pointer (some ⟨X, 0, none⟩)), (3, .pointer (some ⟨M, 0, none⟩))]) (fun _ w' => New w w' ∧ w'.heap[X]? = some (.cells #[.pointer (some ⟨h, 0, none⟩)] 104 (0, 0)) ∧ w'.heap[M]? = some (.cells #[zi x.stack, zi x.locals, .slice Ab x.bytes.length cb, .slice Ah x.hands.length ch, .slice Am x.maps.length cm] 56 (0, 0))) ?_ ?_
  rotate_left
  · intro K hK
    have n1 := New.alloc w (.cells #[.pointer (some ⟨h, 0, none⟩)] 104)
    have h1 := heap_alloc_new w (.cells #[.pointer (some ⟨h, 0, none⟩)] 104)
    have s1 : (w.alloc (.cells #[.pointer (some ⟨h, 0, none⟩)] 104)).heap.size = w.heap.size + 1 := by simp
    have n2 := New.alloc (w.alloc (.cells #[.pointer (some ⟨h, 0, none⟩)] 104)) (.cells #[zi x.stack, zi x.locals, .slice Ab x.bytes.length cb, .slice Ah x.hands.length ch, .slice Am x.maps.length cm] 56)
    have h2 := heap_alloc_new (w.alloc (.cells #[.pointer (some ⟨h, 0, none⟩)] 104)) (.cells #[zi x.stack, zi x.locals, .slice Ab x.bytes.length cb, .slice Ah x.hands.length ch, .slice Am x.maps.length cm] 56)
    rw [s1] at h2
    refine hK () _ _ ⟨(by rw [hXe]; rfl), (show Value.pointer (some ⟨(w.alloc (.cells #[.pointer (some ⟨h, 0, none⟩)] 104)).heap.size, 0, none⟩) = _ by rw [s1, hMe]), trivial⟩ ⟨n1.trans n2, ?_, ?_⟩
    · rw [hXe]; exact n2.blk h1
    · rw [hMe]; exact h2
  rintro _ w0 fr0 ⟨n0, hX0, hM0⟩
  have c0 := c.new n0
  have hXn : ¬ WH h g v X := c.hi (by omega)
  have hMn : ¬ WH h g v M := c.hi (by omega)
  have hb0' := ((Ki.refl c).new n0).lrep u8Ok (by decide) hb0
  have hh0' := ((Ki.refl c).new n0).lrep hndOk (by decide) hh0
  have hm0' := ((Ki.refl c).new n0).lrep mpOk (by decide) hm0
  refine seq_cut (σ := Unit) (fun _ => [(2, .pointer (some ⟨X, 0, none⟩)), (3, .pointer (some ⟨M, 0, none⟩)), (4, zi (x.bytes.length : Int))]) (fun _ w' => w' = w0) ?_ ?_
  rotate_left
  · intro K hK
    refine Exists.intro Ab (Exists.intro x.bytes.length (Exists.intro cb (And.intro (cellB hM0 rfl) ?_)))
    exact hK () _ _ ⟨rfl, rfl, rfl, trivial⟩ rfl
  rintro _ wy fry hwy
  obtain rfl := hwy.symm
  refine seq_cut (σ := Bool) (fun _ => [(2, .pointer (some ⟨X, 0, none⟩)), (3, .pointer (some ⟨M, 0, none⟩)), (4, zi (x.bytes.length : Int))]) (fun b w' => Ki w0 base p h g v w' v (t.1, t.2 || !b) ∧ (b = true ↔ x.stack ≤ 64 ∧ x.locals ≤ 64 ∧ 0 < x.bytes.length ∧ x.bytes.length ≤ 4096)) ?_ ?_
  rotate_left
  · intro K hK
    have fin : ∀ b : Bool, (b = true ↔ x.stack ≤ 64 ∧ x.locals ≤ 64 ∧ 0 < x.bytes.length ∧ x.bytes.length ≤ 4096) → ∀ K' : Value → World → Prop, (∀ w', Ki w0 base p h g v w' v (t.1, t.2 || !b) → K' (.tuple #[]) w') → callQ Tryz.prog 54 [.pointer (some ⟨h, 0, none⟩), .bool b] w0 K' := fun b hb K' hK' => by
      refine call_ (must_ok base p h g v t b w0 c0) ?_
      rintro e w2 ⟨rfl, k2⟩
      exact ⟨_, rfl, hK' w2 k2⟩
    refine Exists.intro (some ⟨h, 0, none⟩) (And.intro (cell0 hX0) ?_)
    refine Exists.intro x.stack (And.intro (cellB hM0 rfl) ?_)
    refine if_p (fun h1 => ?_) (fun h1 => ?_)
    · replace h1 : x.stack ≤ 64 := h1
      refine Exists.intro x.locals (And.intro (cellB hM0 rfl) ?_)
      refine if_p (fun h2 => ?_) (fun h2 => ?_)
      · replace h2 : x.locals ≤ 64 := h2
        refine if_p (fun h3 => ?_) (fun h3 => ?_)
        · replace h3 : 0 < (x.bytes.length : Int) := h3
          have hb : decide ((x.bytes.length : Int) ≤ 4096) = true ↔ x.stack ≤ 64 ∧ x.locals ≤ 64 ∧ 0 < x.bytes.length ∧ x.bytes.length ≤ 4096 := by
            rw [decide_eq_true_eq]
            exact ⟨fun e => ⟨h1, h2, by omega, by omega⟩, fun e => by omega⟩
          exact fin _ hb _ fun w' k' => hK _ _ _ ⟨rfl, rfl, rfl, trivial⟩ ⟨k', hb⟩
        · replace h3 : ¬ 0 < (x.bytes.length : Int) := h3
          have hb : false = true ↔ x.stack ≤ 64 ∧ x.locals ≤ 64 ∧ 0 < x.bytes.length ∧ x.bytes.length ≤ 4096 := ⟨fun e => (by cases e), fun e => absurd e.2.2.1 (by omega)⟩
          exact fin false hb _ fun w' k' => hK false _ _ ⟨rfl, rfl, rfl, trivial⟩ ⟨k', hb⟩
      · replace h2 : ¬ x.locals ≤ 64 := h2
        have hb : false = true ↔ x.stack ≤ 64 ∧ x.locals ≤ 64 ∧ 0 < x.bytes.length ∧ x.bytes.length ≤ 4096 := ⟨fun e => (by cases e), fun e => absurd e.2.1 h2⟩
        exact fin false hb _ fun w' k' => hK false _ _ ⟨rfl, rfl, rfl, trivial⟩ ⟨k', hb⟩
    · replace h1 : ¬ x.stack ≤ 64 := h1
      have hb : false = true ↔ x.stack ≤ 64 ∧ x.locals ≤ 64 ∧ 0 < x.bytes.length ∧ x.bytes.length ≤ 4096 := ⟨fun e => (by cases e), fun e => absurd e.1 h1⟩
      exact fin false hb _ fun w' k' => hK false _ _ ⟨rfl, rfl, rfl, trivial⟩ ⟨k', hb⟩
  rintro b w1 fr1 ⟨k1, hb⟩
  have c1 := k1.wi
  have hX1 := k1.blk hX0 hXn
  have hM1 := k1.blk hM0 hMn
  have hb1 := k1.lrep u8Ok (by decide) hb0'
  have hh1 := k1.lrep hndOk (by decide) hh0'
  have hm1 := k1.lrep mpOk (by decide) hm0'
  have k01 := ((Ki.refl c).new n0).then k1
  have hXl : X < w1.heap.size := (Array.getElem?_eq_some_iff.1 hX1).1
  have kk1 := Ki.refl c1
  refine seq_cut (σ := Value × WT) (fun _ => [(2, .pointer (some ⟨X, 0, none⟩)), (3, .pointer (some ⟨M, 0, none⟩)), (4, zi (x.bytes.length : Int))]) (fun s w' => Ki w1 base p h g v w' s.1 s.2 ∧ Wri (seqT n2 n2) (4) (t.1, t.2 || !b) (x.stack, x.locals) s.2) ?_ ?_
  rotate_left
  · intro K hK
    have hX1 := kk1.blk hX1 hXn
    have hM1 := kk1.blk hM1 hMn
    refine Exists.intro (some ⟨h, 0, none⟩) (And.intro (cell0 hX1) ?_)
    refine Exists.intro x.stack (And.intro (cellB hM1 rfl) ?_)
    refine Exists.intro x.locals (And.intro (cellB hM1 rfl) ?_)
    refine call_ (two1_ok base p h g v (t.1, t.2 || !b) [x.stack, x.locals] 2 w1 kk1.wi rfl (by simp; omega)) ?_
    rintro e w2 ⟨rfl, v2, k2⟩
    refine ⟨_, rfl, ?_⟩
    exact hK (v2, _) _ _ ⟨rfl, rfl, rfl, trivial⟩ ⟨kk1.then k2, Wri.two⟩
  rintro ⟨v2, t2⟩ w2 fr2 ⟨kk2, q2⟩
  dsimp only at kk2 q2
  have p2 := q2.1
  try dsimp only at p2
  refine seq_cut (σ := Value) (fun _ => [(2, .pointer (some ⟨X, 0, none⟩)), (3, .pointer (some ⟨M, 0, none⟩)), (4, zi (x.bytes.length : Int))]) (fun v' w' => Ki w1 base p h g v w' v' (t2.1 ++ enc 4 (x.bytes.length : Int), t2.2)) ?_ ?_
  rotate_left
  · intro K hK
    have hX2 := kk2.blk hX1 hXn
    have hM2 := kk2.blk hM1 hMn
    refine Exists.intro (some ⟨h, 0, none⟩) (And.intro (cell0 hX2) ?_)
    refine Exists.intro (some ⟨g, 0, none⟩) (And.intro (cellB kk2.wi.blk rfl) ?_)
    refine call_ (WUn base p h g v2 t2 4 (x.bytes.length : Int) w2 kk2.wi (by omega)) ?_
    rintro e w3 ⟨rfl, v3, k3⟩
    refine ⟨_, rfl, ?_⟩
    have e5 : allBs t2.1 ((4 : Nat) : Int) false [(x.bytes.length : Int)] = t2.1 ++ enc 4 (x.bytes.length : Int) := congrArg Prod.fst (noteU4 (t := t2) (n := x.bytes.length) (by omega))
    rw [e5] at k3
    exact hK v3 _ _ ⟨rfl, rfl, rfl, trivial⟩ (kk2.then k3)
  rintro v3 w3 fr3 kk3
  refine seq_cut (σ := Value × WT) (fun _ => [(2, .pointer (some ⟨X, 0, none⟩)), (3, .pointer (some ⟨M, 0, none⟩)), (4, zi (x.bytes.length : Int))]) (fun s w' => Ki w1 base p h g v w' s.1 s.2 ∧ Wri blobT (4 + x.bytes.length) t2 x.bytes s.2) ?_ ?_
  rotate_left
  · intro K hK
    have hX3 := kk3.blk hX1 hXn
    have hM3 := kk3.blk hM1 hMn
    have nd := New.drew w3
    refine draw_ (w := w3) ok (.q 0 (.q 1 (.q 2 (.q 3 (.q 4 (.q 5 (.e 6 .done))))))) [6] (New w3) (by kernel_rfl) (by kernel_rfl) (by kernel_rfl) (by kernel_rfl) (by kernel_rfl) nd ?_
    refine Exists.intro (some ⟨h, 0, none⟩) (And.intro (fun w'' hw => cell0 (hw.blk hX3)) ?_)
    refine Exists.intro (some ⟨g, 0, none⟩) (And.intro (fun w'' hw => cellB (hw.blk kk3.wi.blk) rfl) ?_)
    refine Exists.intro Ab (Exists.intro x.bytes.length (Exists.intro cb (And.intro (fun w'' hw => cellB (hw.blk hM3) rfl) ?_)))
    have kd := kk3.new nd
    obtain ⟨_, _, he, row, _⟩ := bytes_row (LRep.weak (S' := fun b => False) u8Ok (kd.lrep u8Ok (by decide) hb1) fun _ _ e => e.elim)
    cases he
    refine call_ (WBn base p h g v3 _ Ab x.bytes.length cb x.bytes w3.drew kd.wi row rfl (by simp [enc_length]; omega)) ?_
    rintro e w4 ⟨rfl, v4, k4⟩
    refine ⟨_, rfl, ?_⟩
    dsimp only at k4
    rw [List.append_assoc] at k4
    exact hK (v4, _) _ _ ⟨rfl, rfl, rfl, trivial⟩ ⟨kd.then k4, Wri.blob (by omega)⟩
  rintro ⟨v4, t4⟩ w4 fr4 ⟨kk4, q4⟩
  dsimp only at kk4 q4
  have p4 := q4.1
  refine seq_cut (σ := Value × WT) (fun _ => [(2, .pointer (some ⟨X, 0, none⟩)), (3, .pointer (some ⟨M, 0, none⟩))]) (fun s w' => Ki w1 base p h g v w' s.1 s.2 ∧ Wri (hndsT p.l) (2 + csum cHnd x.hands) t4 x.hands s.2) ?_ ?_
  rotate_left
  · intro K hK
    have hX4 := kk4.blk hX1 hXn
    have hM4 := kk4.blk hM1 hMn
    refine Exists.intro (some ⟨h, 0, none⟩) (And.intro (cell0 hX4) ?_)
    refine Exists.intro Ah (Exists.intro x.hands.length (Exists.intro ch (And.intro (cellB hM4 rfl) ?_)))
    refine call_ (list_hnd p base h g v4 t4 _ x.hands X w4 kk4.wi hO (kk4.lrep hndOk (by decide) hh1) hX4 (kk4.hid hXl hXn) (by omega)) ?_
    rintro e w5 ⟨rfl, v5, t5, k5, wr5⟩
    refine ⟨_, rfl, ?_⟩
    exact hK (v5, t5) _ _ ⟨rfl, rfl, trivial⟩ ⟨kk4.then k5, wr5⟩
  rintro ⟨v5, t5⟩ w5 fr5 ⟨kk5, q5⟩
  dsimp only at kk5 q5
  have p5 := q5.1
  try dsimp only at p5
  -- behind its handlers
  have hX5 := kk5.blk hX1 hXn
  have hM5 := kk5.blk hM1 hMn
  have fin : ∀ {v' : Value} {t' : WT} {w' : World}, Ki w1 base p h g v w' v' t' → Wri (optT p.l) (10 + csum cMp x.maps) t5 x.maps t' → ∃ v' t', Ki w base p h g v w' v' t' ∧ Wri (codT p.l) (cCod x) t x t' := fun kk q => by
    refine ⟨_, _, k01.then kk, ?_⟩
    have h1 := Wri.by (b := t.2 || !b) (p := b) (P := fun c : Cod => c.stack ≤ 64 ∧ c.locals ≤ 64 ∧ 0 < c.bytes.length ∧ c.bytes.length ≤ 4096) (f := fun c : Cod => (c.stack, c.locals, c.bytes, c.hands, c.maps)) (hf := fun x y _ _ e => by
      cases x; cases y; cases e; rfl) (Wri.assoc (q2.seq (q4.seq (q5.seq q)))) rfl hb
    exact Wri.le h1 (by rw [hcost]; omega)
  refine seq_cut (σ := Unit) (fun _ => [(2, .pointer (some ⟨X, 0, none⟩)), (3, .pointer (some ⟨M, 0, none⟩))]) (fun _ w' => w' = w5 ∧ x.maps ≠ []) ?_ ?_
  rotate_left
  · intro K hK
    refine Exists.intro Am (Exists.intro x.maps.length (Exists.intro cm (And.intro (cellB hM5 rfl) ?_)))
    refine if_p (fun h0 => ?_) (fun h0 => ?_)
    · replace h0 : (x.maps.length : Int) = 0 := h0
      have hnil : x.maps = [] := List.length_eq_zero_iff.1 (by omega)
      refine Exists.intro (some ⟨h, 0, none⟩) (And.intro (cell0 hX5) ?_)
      refine call_ (two1_ok base p h g v5 t5 [0] 1 w5 kk5.wi rfl (by simp; omega)) ?_
      rintro e w8 ⟨rfl, v8, k8⟩
      refine ⟨_, rfl, ?_⟩
      refine ⟨rfl, fin (kk5.then k8) ?_⟩
      have q := (Wri.n2 (t := t5) (n := 0))
      refine ⟨by have := q.1; omega, q.2.imp (fun e => ⟨e.1, e.2.imp id fun e' => absurd (n2_ok (by decide) (by decide)) e'⟩) fun e => ⟨e.1, e.2.1, .inl hnil, ?_⟩⟩
      rw [e.2.2.2, hnil]
      rfl
    · replace h0 : ¬ (x.maps.length : Int) = 0 := h0
      exact hK () _ _ ⟨rfl, rfl, trivial⟩ ⟨rfl, fun e => h0 (by rw [e]; rfl)⟩
  rintro _ wz frz ⟨hwz, hne⟩
  obtain rfl := hwz.symm
  refine seq_cut (σ := Value × WT) (fun _ => [(2, .pointer (some ⟨X, 0, none⟩)), (3, .pointer (some ⟨M, 0, none⟩))]) (fun s w' => Ki w1 base p h g v w' s.1 s.2 ∧ Wri (n2) (2) t5 1 s.2) ?_ ?_
  rotate_left
  · intro K hK
    have hX5 := kk5.blk hX1 hXn
    have hM5 := kk5.blk hM1 hMn
    refine Exists.intro (some ⟨h, 0, none⟩) (And.intro (cell0 hX5) ?_)
    refine call_ (two1_ok base p h g v5 t5 [1] 1 w5 kk5.wi rfl (by simp; omega)) ?_
    rintro e w6 ⟨rfl, v6, k6⟩
    refine ⟨_, rfl, ?_⟩
    exact hK (v6, _) _ _ ⟨rfl, rfl, trivial⟩ ⟨kk5.then k6, Wri.n2⟩
  rintro ⟨v6, t6⟩ w6 fr6 ⟨kk6, q6⟩
  dsimp only at kk6 q6
  have p6 := q6.1
  try dsimp only at p6
  refine seq_cut (σ := Value × WT) (fun _ => [(2, .pointer (some ⟨X, 0, none⟩)), (3, .pointer (some ⟨M, 0, none⟩))]) (fun s w' => Ki w1 base p h g v w' s.1 s.2 ∧ Wri (utfT p.l) (2) t6 tableS s.2) ?_ ?_
  rotate_left
  · intro K hK
    have hX6 := kk6.blk hX1 hXn
    have hM6 := kk6.blk hM1 hMn
    refine Exists.intro (some ⟨h, 0, none⟩) (And.intro (cell0 hX6) ?_)
    refine call_ (wtext_ok p base h g v6 t6 tableS w6 kk6.wi (by omega)) ?_
    rintro e w7 ⟨rfl, v7, t7, k7, wr7⟩
    refine ⟨_, rfl, ?_⟩
    exact hK (v7, t7) _ _ ⟨rfl, rfl, trivial⟩ ⟨kk6.then k7, wr7⟩
  rintro ⟨v7, t7⟩ w7 fr7 ⟨kk7, q7⟩
  dsimp only at kk7 q7
  have p7 := q7.1
  try dsimp only at p7
  have hX7 := kk7.blk hX1 hXn
  have hM7 := kk7.blk hM1 hMn
  refine seq_cut (σ := Nat × Nat) (fun s => [(2, .pointer (some ⟨X, 0, none⟩)), (3, .pointer (some ⟨M, 0, none⟩)), (5, .pointer (some ⟨s.1, 0, none⟩))]) (fun s w' => New w7 w' ∧ Wi w' base p s.1 s.2 (.slice none 0 0) ([], false) ∧ w7.heap.size ≤ s.1 ∧ w7.heap.size ≤ s.2) ?_ ?_
  rotate_left
  · intro K hK
    refine Exists.intro (some ⟨h, 0, none⟩) (And.intro (cell0 hX7) ?_)
    refine call_ (part_ok base p h g v7 t7 w7 kk7.wi) ?_
    rintro e wp ⟨h', hne', rfl, cp, hle, np⟩
    refine ⟨_, rfl, ?_⟩
    exact hK (h', w7.heap.size) _ _ ⟨rfl, rfl, rfl, trivial⟩ ⟨np, cp, hle, Nat.le_refl _⟩
  rintro ⟨h', g'⟩ wp frp ⟨np, cp, hh', hg'⟩
  dsimp only at cp hh' hg'
  have kp := kk7.new np
  have hXp := np.blk hX7
  have hMp := np.blk hM7
  have own' : ∀ b, WH h' g' (.slice none 0 0) b → w7.heap.size ≤ b := fun b e => by
    rcases e with (e | e) | e
    · omega
    · cases e
    · omega
  refine seq_cut (σ := Value × WT) (fun s => [(2, .pointer (some ⟨X, 0, none⟩)), (3, .pointer (some ⟨M, 0, none⟩)), (5, .pointer (some ⟨h', 0, none⟩))]) (fun s w' => Ki wp base p h' g' (.slice none 0 0) w' s.1 s.2 ∧ Wri (mapsT p.l) (2 + csum cMp x.maps) ([], false) x.maps s.2) ?_ ?_
  rotate_left
  · intro K hK
    refine Exists.intro Am (Exists.intro x.maps.length (Exists.intro cm (And.intro (cellB hMp rfl) ?_)))
    refine call_ (maps_ok p base h' g' (.slice none 0 0) ([], false) _ x.maps wp cp hO (LRep.up mpOk (by decide) (kk7.lrep mpOk (by decide) hm1) np own') (by simp; omega)) ?_
    rintro e wq ⟨rfl, vq, tq, kq, wrq⟩
    refine ⟨_, rfl, ?_⟩
    exact hK (vq, tq) _ _ ⟨rfl, rfl, rfl, trivial⟩ ⟨kq, wrq⟩
  rintro ⟨vq, tq⟩ wq frq ⟨kq, wrq⟩
  dsimp only at kq wrq
  have hlq := wrq.1
  simp only [List.length_nil] at hlq
  have ownq : ∀ b, WH h' g' vq b → w7.heap.size ≤ b := fun b e => by
    rcases e with (e | e) | e
    · omega
    · rcases kq.st b e.symm with e1 | e1
      · cases e1
      · exact Nat.le_trans np.size e1
    · omega
  have hbw7 := kk7.wi.bw
  have cw : Wi wq base p h g v7 t7 := kp.wi.other kq.mod fun b _ e => ⟨Nat.le_trans hbw7 (own' b e), kk7.wi.hi (own' b e)⟩
  have hXq := kq.blk hXp fun e => by
    have h1 := own' X e
    have h2 := (Array.getElem?_eq_some_iff.1 hX7).1
    omega
  refine Exists.intro (some ⟨h, 0, none⟩) (And.intro (cell0 hXq) ?_)
  refine call_ (add_ok p base h g v7 t7 h' g' vq tq wq cw kq.wi (fun b e => kk7.wi.hi (ownq b e)) (by omega)) ?_
  rintro e wr ⟨rfl, vr, kr⟩
  refine ⟨_, rfl, ?_⟩
  have hsz7 := kk7.mod.size
  have kall := kp.also kq.mod (fun b e => Nat.le_trans hsz7 (own' b e)) kr
  have qr := Wri.part (t := t7) wrq
  exact ⟨rfl, fin kall (Wri.le (Wri.opt q6 q7 qr hne) (by omega))⟩

end Go.Proofs.YtdcaafldnbcdkaaGreatDoor.Class

/-! ### KRef5 -/
namespace Go.Proofs.YtdcaafldnbcdkaaGreatDoor.Class
open Go Go.Proofs.YtdcaafldnbcdkaaGreatDoor Go.Proofs.YtdcaafldnbcdkaaGreatDoor.Eng Go.Proofs Go.Proofs.YtdcaafldnbcdkaaGreatDoor.Word Go.Proofs.YtdcaafldnbcdkaaGreatDoor.Fmt
open Go.Proofs.YtdcaafldnbcdkaaGreatDoor.Pool (Ent at_ poolF strV entC entV EntOk Pl OkPool both own_low tagAt)
set_option maxRecDepth 10000

/-- Numbers of 64 bits. -/
def iHnd (h : Hnd) : Prop := i64 h.from_ ∧ i64 h.to ∧ i64 h.at_ ∧ i64 h.cls
def iCod (c : Cod) : Prop := i64 c.stack ∧ i64 c.locals ∧ (∀ h ∈ c.hands, iHnd h) ∧ ∀ m ∈ c.maps, i64 m.at_
def iCls (c : Cls) : Prop := ∀ m ∈ c.methods, iCod m.code
theorem Wri.keep {α : Type} {T : Tell α} {c : Nat} {t t1 : WT} {x : α} (h : Wri T c t x t1) (e : t1.2 = false) : t.2 = false := by
  rcases h.2 with ⟨a, _⟩ | ⟨_, a, _⟩
  · rw [e] at a; cases a
  · exact a
/-- A number, cut to what two bytes hold. -/
abbrev clamp (a : Int) : Int := if 0 < (if 65535 < a then 65535 else a) then (if 65535 < a then 65535 else a) else 0
theorem clamp_bd (a : Int) : -9223372036854775808 ≤ clamp a ∧ clamp a ≤ 9223372036854775807 := by
  unfold clamp
  by_cases h1 : 65535 < a
  · rw [if_pos h1, if_pos (by decide)]
    decide
  · rw [if_neg h1]
    by_cases h2 : 0 < a
    · rw [if_pos h2]; omega
    · rw [if_neg h2]; decide
theorem clamp_id {a : Int} (h0 : 0 ≤ a) (h1 : a ≤ 65535) : clamp a = a := by
  unfold clamp
  rw [if_neg (by omega : ¬ 65535 < a)]
  split <;> omega
theorem n2_lo {z : Int} (h : n2.ok z) : 0 ≤ z := by
  have h1 : Word.fits ((2 : Nat) : Int) z false = true := h.1
  simp [Word.fits] at h1
  omega
theorem Kr.wide {α : Type} {R : RepT α} {sz : Nat} {w w' : World} {base h : Nat} {p : Po} {v v' vl : Value} {t : WT} {xs : List α} (k : Kr w base p h v w' v' t) (hR : RepOk R sz) (hsz : 0 < sz) (hl : LRep R w (RHb h v) vl xs) : LRep R w' (fun q => RHb h v q ∨ w.heap.size ≤ q) vl xs :=
  LRep.mod hR hsz (LRep.weak (S' := fun q => RHb h v q ∨ w.heap.size ≤ q) hR hl fun b hb e => e.resolve_right (by omega)) (k.mod.mono fun _ _ e => .inl e)
abbrev mpC (y : Mp) (A1 : Option Addr) (c1 : Nat) (A2 : Option Addr) (c2 : Nat) : Array Value := #[zi y.at_, .slice A1 y.locals.length c1, .slice A2 y.stack.length c2]
/-- A map that is being told by an inner writer. -/
structure Mb (w0 : World) (base : Nat) (p : Po) (h : Nat) (v v7 : Value) (t7 : WT) (z E : Nat) (y : Mp) (A1 : Option Addr) (c1 : Nat) (A2 : Option Addr) (c2 : Nat) (wl : World) (v' : Value) (t' : WT) : Prop where
  nest : Nest w0 base p h v wl v7 t7 z v' t'
  blk : wl.heap[E]? = some (.cells (mpC y A1 c1 A2 c2) 97 (0, 0))
  hid : ¬ RHb z v' E
  l1 : LRep tyR wl (fun q => RHb h v q ∨ w0.heap.size ≤ q) (.slice A1 y.locals.length c1) y.locals
  l2 : LRep tyR wl (fun q => RHb h v q ∨ w0.heap.size ≤ q) (.slice A2 y.stack.length c2) y.stack
theorem Mb.act {w0 wl w' : World} {base h z E : Nat} {p : Po} {v v7 v' v'' : Value} {t7 t' t'' : WT} {y : Mp} {A1 A2 : Option Addr} {c1 c2 : Nat} (m : Mb w0 base p h v v7 t7 z E y A1 c1 A2 c2 wl v' t') (k : Kr wl base p z v' w' v'' t'') : Mb w0 base p h v v7 t7 z E y A1 c1 A2 c2 w' v'' t'' := by
  have hl := (Array.getElem?_eq_some_iff.1 m.blk).1
  refine ⟨m.nest.act k, k.blk m.blk m.hid, k.hid hl m.hid, LRep.mod tyOk (by decide) m.l1 (k.mod.mono fun q _ e => .inr (m.nest.at_ q e)), LRep.mod tyOk (by decide) m.l2 (k.mod.mono fun q _ e => .inr (m.nest.at_ q e))⟩
theorem mp_sum {l : List Ent} {last zz : Int} {y : Mp} {u t3 t4 t5 t6 : WT} {bm bb : Bool} (hl : (bm || u.2) = false → -1 ≤ last ∧ last ≤ 65535) (hbb : bb = true ↔ last < y.at_ ∧ y.at_ ≤ 65535) (hz : -1 ≤ last ∧ last ≤ 65535 → last < y.at_ ∧ y.at_ ≤ 65535 → zz = y.at_ - last - 1)
    (q1 : Wri n1 1 (u.1, u.2 || !bb) 255 t3) (q2 : Wri n2 2 t3 zz t4) (q3 : Wri (lcsT l) (2 + 3 * y.locals.length) t4 y.locals t5) (q4 : Wri (stkT l) (2 + 3 * y.stack.length) t5 y.stack t6) :
    Wri (mapT l last) (cMp y) (u.1, bm || u.2) y (t6.1, bm || t6.2) ∧ ((bm || t6.2) = false → -1 ≤ y.at_ ∧ y.at_ ≤ 65535) := by
  have hlen : t6.1.length ≤ u.1.length + cMp y := by
    have h1 := q1.1
    have h2 := q2.1
    have h3 := q3.1
    have h4 := q4.1
    dsimp only at h1
    unfold cMp
    omega
  have back : t6.2 = false → (u.2 || !bb) = false := fun e => q1.keep (q2.keep (q3.keep (q4.keep e)))
  constructor
  · by_cases hu : (bm || u.2) = true
    · refine ⟨hlen, .inl ⟨?_, .inl hu⟩⟩
      cases hb : bm with
      | true => rfl
      | false =>
        rw [hb, Bool.false_or] at hu
        cases h6 : t6.2 with
        | true => rfl
        | false =>
          have := back h6
          rw [hu] at this
          cases this
    · rw [Bool.not_eq_true] at hu
      cases hb : bb with
      | false =>
        refine Wri.nok ?_ hlen fun o => ?_
        · cases h6 : t6.2 with
          | true => simp
          | false =>
            have := back h6
            rw [hb] at this
            simp at this
        · have := hbb.2 o.1
          rw [hb] at this
          cases this
      | true =>
        have hP := hbb.1 hb
        have hzz := hz (hl hu) hP
        subst hzz
        have q := Wri.by (p := bb) (P := fun m : Mp => last < m.at_ ∧ m.at_ ≤ 65535) (f := fun m : Mp => (255, m.at_ - last - 1, m.locals, m.stack)) (hf := fun x y _ _ e => by
          cases x; cases y; simp only [Prod.mk.injEq] at e; obtain ⟨_, e1, e2, e3⟩ := e; subst e2 e3; congr 1; omega) (t := u) (q1.seq (q2.seq (q3.seq q4))) rfl hbb
        exact (Wri.le q (by unfold cMp; omega)).mark bm
  · intro e
    rw [Bool.or_eq_false_iff] at e
    have h1 := back e.2
    rw [Bool.or_eq_false_iff] at h1
    have hb : bb = true := by
      have := h1.2
      revert this
      cases bb <;> decide
    have hP := hbb.1 hb
    have := hl (by rw [e.1, h1.1]; rfl)
    omega
theorem refcode_ok (base : Nat) (p : Po) (h : Nat) (v : Value) (t : WT) (cs : List Value) (x : Cod) (w : World) (c : Ri w base p h v t) (hO : OkPool p.l) (hx : codR w (RHb h v) cs x) (hi : iCod x) (hm : t.1.length + cCod x ≤ 1000000000) :
    Calls Tryz.prog 75 #[.pointer (some ⟨h, 0, none⟩), .agg cs.toArray] w fun e w' => e = .returned (.tuple #[]) ∧ ∃ v' t', Kr w base p h v w' v' t' ∧ Wri (codT p.l) (cCod x) t x t' := by
  obtain ⟨_, _, _, rfl, hb0, hh0, hm0⟩ := hx
  obtain ⟨Ab, cb, rfl, hnb, _⟩ := hb0.get u8Ok (by decide)
  obtain ⟨Ah, ch, rfl, hnh, _⟩ := hh0.get hndOk (by decide)
  obtain ⟨Am, cm, rfl, hnm, _⟩ := hm0.get mpOk (by decide)
  obtain ⟨hi1, hi2, hi3, hi4⟩ := hi
  unfold i64 at hi1 hi2
  have hcost : cCod x = 4 + (4 + x.bytes.length) + (2 + csum cHnd x.hands) + (10 + csum cMp x.maps) := rfl
  have hbw := c.bw
  refine enter ok Tryz.func75 rfl rfl rfl ?_
  obtain ⟨M, hMe⟩ : ∃ M, M = w.heap.size := ⟨_, rfl⟩
  refine seq_cut (σ := Unit) (fun _ => [(0, .pointer (some ⟨h, 0, none⟩)), (3, .pointer (some ⟨M, 0, none⟩))]) (fun _ w' => New w w' ∧ w'.heap[M]? = some (.cells #[zi x.stack, zi x.locals, .slice Ab x.bytes.length cb, .slice Ah x.hands.length ch, .slice Am x.maps.length cm] 56 (0, 0))) ?_ ?_
  rotate_left
  · intro K hK
    rw [hMe] at hK
    exact hK () _ _ ⟨rfl, rfl, trivial⟩ ⟨New.alloc w _, heap_alloc_new w (.cells #[zi x.stack, zi x.locals, .slice Ab x.bytes.length cb, .slice Ah x.hands.length ch, .slice Am x.maps.length cm] 56)⟩
  rintro _ w0 fr0 ⟨n0, hM0⟩
  have c0 := c.new n0
  have k00 := (Kr.refl c).new n0
  have hMn : ¬ RHb h v M := c.hi (by omega)
  have hb1 := k00.lrep u8Ok (by decide) hb0
  have hh1 := k00.lrep hndOk (by decide) hh0
  have hm1 := k00.lrep mpOk (by decide) hm0
  have hbw0 := c0.bw
  have hC : ∀ b : Bool, (b = true ↔ 0 ≤ x.stack ∧ x.stack ≤ 64 ∧ 0 ≤ x.locals ∧ x.locals ≤ 64 ∧ 1 ≤ x.bytes.length ∧ x.bytes.length ≤ 4096 ∧ x.hands.length ≤ 256 ∧ x.maps.length ≤ 256) → (codT p.l).ok x → b = true := fun b hb o => by
    obtain ⟨⟨o1, o2, o3, o4⟩, o5, o6, o7, o8, o9⟩ := o
    refine hb.2 ⟨(n2_lo o5), o1, (n2_lo o6), o2, o3, o4, o8.1, ?_⟩
    rcases o9 with o9 | o9
    · dsimp only at o9
      rw [o9]
      decide
    · exact o9.2.1
  refine seq_cut (σ := Bool) (fun _ => [(0, .pointer (some ⟨h, 0, none⟩)), (3, .pointer (some ⟨M, 0, none⟩))]) (fun b w' => Kr w0 base p h v w' v (t.1, t.2 || !b) ∧ (b = true ↔ 0 ≤ x.stack ∧ x.stack ≤ 64 ∧ 0 ≤ x.locals ∧ x.locals ≤ 64 ∧ 1 ≤ x.bytes.length ∧ x.bytes.length ≤ 4096 ∧ x.hands.length ≤ 256 ∧ x.maps.length ≤ 256)) ?_ ?_
  rotate_left
  · intro K hK
    have fin : ∀ b : Bool, (b = true ↔ 0 ≤ x.stack ∧ x.stack ≤ 64 ∧ 0 ≤ x.locals ∧ x.locals ≤ 64 ∧ 1 ≤ x.bytes.length ∧ x.bytes.length ≤ 4096 ∧ x.hands.length ≤ 256 ∧ x.maps.length ≤ 256) → ∀ K' : Value → World → Prop, (∀ w', Kr w0 base p h v w' v (t.1, t.2 || !b) → K' (.tuple #[]) w') → callQ Tryz.prog 73 [.pointer (some ⟨h, 0, none⟩), .bool b] w0 K' := fun b hb K' hK' => by
      refine call_ (rmust_ok base p h v t b w0 c0) ?_
      rintro e w2 ⟨rfl, k2⟩
      exact ⟨_, rfl, hK' w2 k2⟩
    refine Exists.intro x.stack (And.intro (cellB hM0 rfl) ?_)
    refine if_p (fun h0 => ?_) (fun h0 => ?_)
    · replace h0 : 0 ≤ x.stack := h0
      refine Exists.intro x.stack (And.intro (cellB hM0 rfl) ?_)
      refine if_p (fun h1 => ?_) (fun h1 => ?_)
      · replace h1 : x.stack ≤ 64 := h1
        refine Exists.intro x.locals (And.intro (cellB hM0 rfl) ?_)
        refine if_p (fun h2 => ?_) (fun h2 => ?_)
        · replace h2 : 0 ≤ x.locals := h2
          refine Exists.intro x.locals (And.intro (cellB hM0 rfl) ?_)
          refine if_p (fun h3 => ?_) (fun h3 => ?_)
          · replace h3 : x.locals ≤ 64 := h3
            refine Exists.intro Ab (Exists.intro x.bytes.length (Exists.intro cb (And.intro (cellB hM0 rfl) ?_)))
            refine if_p (fun h4 => ?_) (fun h4 => ?_)
            · replace h4 : 1 ≤ (x.bytes.length : Int) := h4
              refine Exists.intro Ab (Exists.intro x.bytes.length (Exists.intro cb (And.intro (cellB hM0 rfl) ?_)))
              refine if_p (fun h5 => ?_) (fun h5 => ?_)
              · replace h5 : (x.bytes.length : Int) ≤ 4096 := h5
                refine Exists.intro Ah (Exists.intro x.hands.length (Exists.intro ch (And.intro (cellB hM0 rfl) ?_)))
                refine if_p (fun h6 => ?_) (fun h6 => ?_)
                · replace h6 : (x.hands.length : Int) ≤ 256 := h6
                  refine Exists.intro Am (Exists.intro x.maps.length (Exists.intro cm (And.intro (cellB hM0 rfl) ?_)))
                  have hb : decide ((x.maps.length : Int) ≤ 256) = true ↔ 0 ≤ x.stack ∧ x.stack ≤ 64 ∧ 0 ≤ x.locals ∧ x.locals ≤ 64 ∧ 1 ≤ x.bytes.length ∧ x.bytes.length ≤ 4096 ∧ x.hands.length ≤ 256 ∧ x.maps.length ≤ 256 := by
                    rw [decide_eq_true_eq]
                    exact ⟨fun e => (by omega : 0 ≤ x.stack ∧ x.stack ≤ 64 ∧ 0 ≤ x.locals ∧ x.locals ≤ 64 ∧ 1 ≤ x.bytes.length ∧ x.bytes.length ≤ 4096 ∧ x.hands.length ≤ 256 ∧ x.maps.length ≤ 256), fun e => by omega⟩
                  exact fin _ hb _ fun w' k' => hK _ _ _ ⟨rfl, rfl, trivial⟩ ⟨k', hb⟩
                · replace h6 : ¬ (x.hands.length : Int) ≤ 256 := h6
                  exact fin false ⟨fun e => (by cases e), fun e => absurd e (by omega)⟩ _ fun w' k' => hK false _ _ ⟨rfl, rfl, trivial⟩ ⟨k', ⟨fun e => (by cases e), fun e => absurd e (by omega)⟩⟩
              · replace h5 : ¬ (x.bytes.length : Int) ≤ 4096 := h5
                exact fin false ⟨fun e => (by cases e), fun e => absurd e (by omega)⟩ _ fun w' k' => hK false _ _ ⟨rfl, rfl, trivial⟩ ⟨k', ⟨fun e => (by cases e), fun e => absurd e (by omega)⟩⟩
            · replace h4 : ¬ 1 ≤ (x.bytes.length : Int) := h4
              exact fin false ⟨fun e => (by cases e), fun e => absurd e (by omega)⟩ _ fun w' k' => hK false _ _ ⟨rfl, rfl, trivial⟩ ⟨k', ⟨fun e => (by cases e), fun e => absurd e (by omega)⟩⟩
          · replace h3 : ¬ x.locals ≤ 64 := h3
            exact fin false ⟨fun e => (by cases e), fun e => absurd e (by omega)⟩ _ fun w' k' => hK false _ _ ⟨rfl, rfl, trivial⟩ ⟨k', ⟨fun e => (by cases e), fun e => absurd e (by omega)⟩⟩
        · replace h2 : ¬ 0 ≤ x.locals := h2
          exact fin false ⟨fun e => (by cases e), fun e => absurd e (by omega)⟩ _ fun w' k' => hK false _ _ ⟨rfl, rfl, trivial⟩ ⟨k', ⟨fun e => (by cases e), fun e => absurd e (by omega)⟩⟩
      · replace h1 : ¬ x.stack ≤ 64 := h1
        exact fin false ⟨fun e => (by cases e), fun e => absurd e (by omega)⟩ _ fun w' k' => hK false _ _ ⟨rfl, rfl, trivial⟩ ⟨k', ⟨fun e => (by cases e), fun e => absurd e (by omega)⟩⟩
    · replace h0 : ¬ 0 ≤ x.stack := h0
      exact fin false ⟨fun e => (by cases e), fun e => absurd e (by omega)⟩ _ fun w' k' => hK false _ _ ⟨rfl, rfl, trivial⟩ ⟨k', ⟨fun e => (by cases e), fun e => absurd e (by omega)⟩⟩
  rintro b w1 fr1 ⟨k1, hb⟩
  have hM1 := k1.blk hM0 hMn
  refine seq_cut (σ := Value × WT) (fun _ => [(0, .pointer (some ⟨h, 0, none⟩)), (3, .pointer (some ⟨M, 0, none⟩))]) (fun s w' => Kr w0 base p h v w' s.1 s.2 ∧ Wri (seqT n2 n2) 4 (t.1, t.2 || !b) (x.stack, x.locals) s.2) ?_ ?_
  rotate_left
  · intro K hK
    refine Exists.intro x.stack (And.intro (cellB hM1 rfl) ?_)
    refine Exists.intro x.locals (And.intro (cellB hM1 rfl) ?_)
    refine call_ (ruL_ok base p h v (t.1, t.2 || !b) 2 [x.stack, x.locals] 2 w1 k1.ri rfl (fun q hq => ?_) (by simp; omega)) ?_
    · rcases List.mem_cons.1 hq with rfl | hq
      · exact hi1
      · rw [List.mem_singleton.1 hq]; exact hi2
    rintro e w2 ⟨rfl, v2, k2⟩
    refine ⟨_, rfl, ?_⟩
    exact hK (v2, _) _ _ ⟨rfl, rfl, trivial⟩ ⟨k1.then k2, Wri.two⟩
  rintro ⟨v2, t2⟩ w2 fr2 ⟨k2, q2⟩
  dsimp only at k2 q2
  have p2 := q2.1
  dsimp only at p2
  have hM2 := k2.blk hM0 hMn
  refine seq_cut (σ := Value) (fun _ => [(0, .pointer (some ⟨h, 0, none⟩)), (3, .pointer (some ⟨M, 0, none⟩))]) (fun v' w' => Kr w0 base p h v w' v' (t2.1 ++ enc 4 (x.bytes.length : Int), t2.2)) ?_ ?_
  rotate_left
  · intro K hK
    refine Exists.intro Ab (Exists.intro x.bytes.length (Exists.intro cb (And.intro (cellB hM2 rfl) ?_)))
    refine call_ (ruL_ok base p h v2 t2 4 [(x.bytes.length : Int)] 1 w2 k2.ri rfl (by simp; omega) (by simp; omega)) ?_
    rintro e w3 ⟨rfl, v3, k3⟩
    refine ⟨_, rfl, ?_⟩
    rw [noteU4 (by omega)] at k3
    exact hK v3 _ _ ⟨rfl, rfl, trivial⟩ (k2.then k3)
  rintro v3 w3 fr3 k3
  have hM3 := k3.blk hM0 hMn
  refine seq_cut (σ := Value × WT) (fun _ => [(0, .pointer (some ⟨h, 0, none⟩)), (3, .pointer (some ⟨M, 0, none⟩))]) (fun s w' => Kr w0 base p h v w' s.1 s.2 ∧ Wri blobT (4 + x.bytes.length) t2 x.bytes s.2) ?_ ?_
  rotate_left
  · intro K hK
    obtain ⟨t3, ht3⟩ : ∃ t3, t3 = (t2.1 ++ enc 4 (x.bytes.length : Int), t2.2) := ⟨_, rfl⟩
    rw [← ht3] at k3
    have hl3 : t3.1.length = t2.1.length + 4 := by rw [ht3]; simp only [List.length_append, enc_length]
    obtain ⟨A3, c3, rfl, _⟩ := own_slice k3.ri.own
    have nd := New.drew w3
    refine draw_ (w := w3) ok (.q 0 (.q 1 (.q 2 (.q 3 (.q 4 (.q 5 (.q 6 (.e 7 (.q 8 (.q 9 (.e 10 .done))))))))))) [10] (fun w'' : World => w''.heap[h]? = some (.cells #[p.v, .slice A3 t3.1.length c3, .bool t3.2] 135 (0, 0)) ∧ w''.heap[M]? = some (.cells #[zi x.stack, zi x.locals, .slice Ab x.bytes.length cb, .slice Ah x.hands.length ch, .slice Am x.maps.length cm] 56 (0, 0))) (by kernel_rfl) (by kernel_rfl) (by kernel_rfl) (by kernel_rfl) (by kernel_rfl) ⟨nd.blk k3.ri.blk, nd.blk hM3⟩ ?_
    refine Exists.intro A3 (Exists.intro t3.1.length (Exists.intro c3 (And.intro (fun w'' hw => cellB hw.1 rfl) ?_)))
    refine Exists.intro Ab (Exists.intro x.bytes.length (Exists.intro cb (And.intro (fun w'' hw => cellB hw.2 rfl) ?_)))
    have kd := k3.new nd
    obtain ⟨_, _, he, row, _⟩ := bytes_row (LRep.weak (S' := fun b => False) u8Ok (kd.lrep u8Ok (by decide) hb1) fun _ _ e => e.elim)
    cases he
    refine eff_app rfl rfl (fun _ _ => rfl) ?_
    refine append2_ ok rfl rfl rfl rfl kd.ri.own rfl rfl row (by rw [bvs_length]; exact (Nat.mul_one _).symm) (bvs_one _) (by decide) rfl (by show (t3.1.length + x.bytes.length) * 1 ≤ _; omega) (by omega) kd.ri.bw ?_
    intro A7 c7 w7 own7 mod7 st7
    have hb7 := mod7.blk kd.ri.blk (fun e => kd.ri.off e.symm)
    have hM7 := mod7.blk (nd.blk hM3) (fun e => k3.hid (Array.getElem?_eq_some_iff.1 hM0).1 hMn (.inl e))
    refine Exists.intro (fun w'' : World => w''.heap[h]? = some (.cells #[p.v, .slice A3 t3.1.length c3, .bool t3.2] 135 (0, 0)) ∧ w''.heap[M]? = some (.cells #[zi x.stack, zi x.locals, .slice Ab x.bytes.length cb, .slice Ah x.hands.length ch, .slice Am x.maps.length cm] 56 (0, 0))) ?_
    refine And.intro (fun _ h => h) ?_
    refine And.intro ⟨hb7, hM7⟩ ?_
    refine And.intro ⟨_, cellB hb7 rfl⟩ (And.intro (fzB hb7 _) (force_ ?_))
    refine stK hb7 (show (1 : Nat) < 3 by decide) ?_
    intro w8 hb8 m8 s8
    have k8 := kd.ri.put (bs := t3.1 ++ x.bytes) mod7 (by rw [List.length_append, bvs_append]; exact own7) st7 m8 hb8
    refine hK (.slice A7 (t3.1.length + x.bytes.length) c7, (t3.1 ++ x.bytes, t3.2)) _ _ ⟨rfl, rfl, trivial⟩ ⟨kd.then k8, ?_⟩
    rw [ht3]
    dsimp only
    rw [List.append_assoc]
    exact Wri.blob (by omega)
  rintro ⟨v4, t4⟩ w4 fr4 ⟨k4, q4⟩
  dsimp only at k4 q4
  have p4 := q4.1
  have hM4 := k4.blk hM0 hMn
  have bad4 : t4.2 = false → b = true := fun e => by
    have := q2.keep (q4.keep e)
    rw [Bool.or_eq_false_iff] at this
    have h2 := this.2
    revert h2
    cases b <;> decide
  refine seq_cut (σ := Value × WT) (fun _ => [(0, .pointer (some ⟨h, 0, none⟩)), (3, .pointer (some ⟨M, 0, none⟩))]) (fun s w' => Kr w0 base p h v w' s.1 s.2 ∧ Wri n2 2 (t4.1, t4.2 || !decide (x.hands.length ≤ 256)) (x.hands.length : Int) s.2) ?_ ?_
  rotate_left
  · intro K hK
    refine Exists.intro Ah (Exists.intro x.hands.length (Exists.intro ch (And.intro (cellB hM4 rfl) ?_)))
    refine call_ (ruL_ok base p h v4 t4 2 [(x.hands.length : Int)] 1 w4 k4.ri rfl (by simp; omega) (by simp; omega)) ?_
    rintro e w5 ⟨rfl, v5, k5⟩
    refine ⟨_, rfl, ?_⟩
    have e4 : (t4.1, t4.2 || !decide (x.hands.length ≤ 256)) = t4 := by
      cases ht : t4.2 with
      | true => rw [← ht, Prod.mk.injEq]; exact ⟨rfl, by rw [ht]; rfl⟩
      | false =>
        have := (hb.1 (bad4 ht)).2.2.2.2.2.2.1
        rw [decide_eq_true this, ← ht, Prod.mk.injEq]
        exact ⟨rfl, by rw [ht]; rfl⟩
    exact hK (v5, _) _ _ ⟨rfl, rfl, trivial⟩ ⟨k4.then k5, by rw [e4]; exact Wri.n2⟩
  rintro ⟨v5, t5⟩ w5 fr5 ⟨k5, wr5⟩
  dsimp only at k5 wr5
  -- its handlers
  refine seq_cut (σ := Value × WT) (fun _ => [(0, .pointer (some ⟨h, 0, none⟩)), (3, .pointer (some ⟨M, 0, none⟩))]) (fun s w' => Kr w0 base p h v w' s.1 s.2 ∧ Wri (hndsT p.l) (2 + csum cHnd x.hands) t4 x.hands s.2) ?_ ?_
  rotate_left
  · intro K hK
    refine seq_assign ?_
    refine den_loop (σ := Nat × Value × WT) (fun s => [(0, .pointer (some ⟨h, 0, none⟩)), (3, .pointer (some ⟨M, 0, none⟩)), (4, zi (s.1 : Int))]) (fun m s wl => x.hands.length ≤ m + s.1 ∧ s.1 ≤ x.hands.length ∧ Kr w0 base p h v wl s.2.1 s.2.2 ∧ WLst (hndT p.l) 256 cHnd t4 x.hands s.1 s.2.2) x.hands.length (0, v5, t5) ⟨rfl, rfl, rfl, trivial⟩ ⟨by dsimp only; omega, Nat.zero_le _, k5, WLst.start (by decide) wr5⟩ ?_
    rintro m ⟨i, vl, tl⟩ wl frl ⟨hfuel, hil, kl, hw⟩
    dsimp only at hfuel hil kl hw
    have hMl := kl.blk hM0 hMn
    refine seq_cut (σ := Unit) (fun _ => [(0, .pointer (some ⟨h, 0, none⟩)), (3, .pointer (some ⟨M, 0, none⟩)), (4, zi (i : Int))]) (fun _ w' => w' = wl ∧ i < x.hands.length) ?_ ?_
    rotate_left
    · intro K2 hK2
      refine Exists.intro Ah (Exists.intro x.hands.length (Exists.intro ch (And.intro (cellB hMl rfl) ?_)))
      refine if_p (fun hlt => ?_) (fun hge => ?_)
      · replace hlt : (i : Int) < (x.hands.length : Int) := hlt
        exact hK2 () _ _ ⟨rfl, rfl, rfl, trivial⟩ ⟨rfl, by omega⟩
      · replace hge : ¬ (i : Int) < (x.hands.length : Int) := hge
        have e : i = x.hands.length := by omega
        subst e
        exact hK (vl, tl) _ _ ⟨rfl, rfl, trivial⟩ ⟨kl, hw.done⟩
    rintro _ wy fry ⟨hwy, hi⟩
    obtain rfl := hwy.symm
    have hlt : (i : Int) < (x.hands.length : Int) := by omega
    obtain ⟨m, rfl⟩ : ∃ m', m = m' + 1 := ⟨m - 1, by omega⟩
    obtain ⟨_, _, he, _, gx⟩ := (kl.lrep hndOk (by decide) hh1).get hndOk (by decide)
    cases he
    obtain ⟨a, cs, ea, hx, hc⟩ := gx i hi
    have hin := hi3 _ (List.getElem_mem hi)
    have hcs : csum cHnd (x.hands.take i) + cHnd x.hands[i] ≤ csum cHnd x.hands := by
      have h1 := csum_le cHnd x.hands (i + 1)
      rw [List.take_succ_eq_append_getElem hi, csum_snoc] at h1
      exact h1
    have hw1 := hw.1
    obtain ⟨y, hy⟩ : ∃ y, y = x.hands[i] := ⟨_, rfl⟩
    rw [← hy] at hx hin hcs
    have hx0 := hx
    obtain rfl := hx
    refine seq_cut (σ := Value × WT) (fun _ => [(0, .pointer (some ⟨h, 0, none⟩)), (3, .pointer (some ⟨M, 0, none⟩)), (4, zi (i : Int))]) (fun s w' => Kr w0 base p h v w' s.1 s.2 ∧ Wri (hndT p.l) (cHnd y) tl y s.2) ?_ ?_
    · rintro ⟨v6, t6⟩ w6 fr6 ⟨k6, q6⟩
      dsimp only at k6 q6
      have inc := incN hi hnh
      exact ⟨m, (i + 1, v6, t6), by omega, ⟨rfl, rfl, inc, trivial⟩, by dsimp only; omega, by dsimp only; omega, k6, hw.step hi (by rw [← hy]; exact q6)⟩
    intro K3 hK3
    refine block_ ?_
    obtain ⟨E, hE⟩ : ∃ E, E = wl.heap.size := ⟨_, rfl⟩
    refine seq_cut (σ := Unit) (fun _ => [(0, .pointer (some ⟨h, 0, none⟩)), (3, .pointer (some ⟨M, 0, none⟩)), (4, zi (i : Int)), (5, .pointer (some ⟨E, 0, none⟩))]) (fun _ w' => New wl w' ∧ w'.heap[E]? = some (.cells #[zi y.from_, zi y.to, zi y.at_, zi y.cls] 92 (0, 0))) ?_ ?_
    rotate_left
    · intro K4 hK4
      refine Exists.intro Ah (Exists.intro x.hands.length (Exists.intro ch (And.intro (cellB hMl rfl) ?_)))
      refine And.intro (by omega) (And.intro hlt ?_)
      refine some_at ea ?_
      refine loadN_row (vs := [zi y.from_, zi y.to, zi y.at_, zi y.cls]) (fun j u hu => by rw [Int.toNat_natCast]; exact hc j u hu) rfl ?_
      refine And.intro rfl ?_
      refine storeNew (vs := [zi y.from_, zi y.to, zi y.at_, zi y.cls]) (arr := #[zi 0, zi 0, zi 0, zi 0]) rfl (hndOk.one hx0) ?_
      intro w6 hb6 n6 s6
      rw [hE] at hK4
      exact hK4 () _ _ ⟨rfl, rfl, rfl, rfl, trivial⟩ ⟨n6, hb6⟩
    rintro _ w6 fr6 ⟨n6, hE6⟩
    have k6 := kl.new n6
    have hEn : ¬ RHb h vl E := kl.ri.hi (by omega)
    refine seq_cut (σ := Bool) (fun _ => [(0, .pointer (some ⟨h, 0, none⟩)), (3, .pointer (some ⟨M, 0, none⟩)), (4, zi (i : Int)), (5, .pointer (some ⟨E, 0, none⟩))]) (fun b w' => Kr w6 base p h vl w' vl (tl.1, tl.2 || !b) ∧ (b = true ↔ y.cls = 0 ∨ 0 < y.cls ∧ y.cls < (p.l.length : Int) ∧ (at_ p.l y.cls).tag = 7)) ?_ ?_
    rotate_left
    · intro K4 hK4
      have nd := New.drew w6
      have fin : ∀ b : Bool, (b = true ↔ y.cls = 0 ∨ 0 < y.cls ∧ y.cls < (p.l.length : Int) ∧ (at_ p.l y.cls).tag = 7) → ∀ K' : Value → World → Prop, (∀ w', Kr w6 base p h vl w' vl (tl.1, tl.2 || !b) → K' (.tuple #[]) w') → callQ Tryz.prog 73 [.pointer (some ⟨h, 0, none⟩), .bool b] w6.drew K' := fun b hb K' hK' => by
        refine call_ (rmust_ok base p h vl tl b w6.drew (k6.ri.new nd)) ?_
        rintro e w2 ⟨rfl, k2⟩
        exact ⟨_, rfl, hK' w2 (((Kr.refl k6.ri).new nd).then k2)⟩
      refine draw_ (w := w6) ok (.q 0 (.q 1 (.q 2 (.q 3 (.q 4 (.q 5 (.q 6 (.q 7 (.q 8 (.q 9 (.q 10 (.q 11 (.q 12 (.q 13 (.q 14 (.q 15 (.q 16 (.q 17 (.q 18 (.q 19 (.q 20 (.q 21 (.q 22 (.q 23 (.q 24 (.q 25 (.q 26 (.q 27 (.q 28 (.q 29 (.q 30 (.e 31 .done)))))))))))))))))))))))))))))))) [31] (New w6) (by kernel_rfl) (by kernel_rfl) (by kernel_rfl) (by kernel_rfl) (by kernel_rfl) nd ?_
      refine Exists.intro y.cls (And.intro (fun w'' hw => cellB (hw.blk hE6) rfl) ?_)
      refine if_p (fun h0 => ?_) (fun h0 => ?_)
      · replace h0 : y.cls = 0 := h0
        exact fin true ⟨fun _ => .inl h0, fun _ => rfl⟩ _ fun w' k' => hK4 true _ _ ⟨rfl, rfl, rfl, rfl, trivial⟩ ⟨k', ⟨fun _ => .inl h0, fun _ => rfl⟩⟩
      · replace h0 : ¬ y.cls = 0 := h0
        refine Exists.intro y.cls (And.intro (fun w'' hw => cellB (hw.blk hE6) rfl) ?_)
        refine if_p (fun h1 => ?_) (fun h1 => ?_)
        · replace h1 : 0 < y.cls := h1
          refine Exists.intro y.cls (And.intro (fun w'' hw => cellB (hw.blk hE6) rfl) ?_)
          refine Exists.intro p.A (Exists.intro p.l.length (Exists.intro p.c (And.intro (fun w'' hw => cellB (hw.blk k6.ri.blk) rfl) ?_)))
          refine if_p (fun h2 => ?_) (fun h2 => ?_)
          · replace h2 : y.cls < (p.l.length : Int) := h2
            have hi' : y.cls.toNat < p.l.length := by omega
            obtain ⟨a2, ea2, hok2, hc2⟩ := k6.ri.cx.pl.at_ hi'
            have e1 : at_ p.l ((y.cls.toNat : Nat) : Int) = at_ p.l y.cls := by rw [Int.toNat_of_nonneg (by omega)]
            rw [e1] at hc2
            refine Exists.intro p.A (Exists.intro p.l.length (Exists.intro p.c (And.intro (fun w'' hw => cellB (hw.blk k6.ri.blk) rfl) ?_)))
            refine Exists.intro y.cls (And.intro (fun w'' hw => cellB (hw.blk hE6) rfl) ?_)
            refine And.intro (by omega) (And.intro h2 ?_)
            refine some_at ea2 ?_
            refine Exists.intro (at_ p.l y.cls).tag (And.intro (fun w'' hw => hw.cell (by have := hc2 0 _ rfl; rw [add_zero_] at this ⊢; exact this)) ?_)
            have hb : decide ((at_ p.l y.cls).tag = 7) = true ↔ y.cls = 0 ∨ 0 < y.cls ∧ y.cls < (p.l.length : Int) ∧ (at_ p.l y.cls).tag = 7 := by
              rw [decide_eq_true_eq]
              exact ⟨fun e => .inr ⟨h1, h2, e⟩, fun e => (e.resolve_left h0).2.2⟩
            exact fin _ hb _ fun w' k' => hK4 _ _ _ ⟨rfl, rfl, rfl, rfl, trivial⟩ ⟨k', hb⟩
          · replace h2 : ¬ y.cls < (p.l.length : Int) := h2
            have hb : false = true ↔ y.cls = 0 ∨ 0 < y.cls ∧ y.cls < (p.l.length : Int) ∧ (at_ p.l y.cls).tag = 7 := ⟨fun e => (by cases e), fun e => absurd (e.resolve_left h0).2.1 h2⟩
            exact fin false hb _ fun w' k' => hK4 false _ _ ⟨rfl, rfl, rfl, rfl, trivial⟩ ⟨k', hb⟩
        · replace h1 : ¬ 0 < y.cls := h1
          have hb : false = true ↔ y.cls = 0 ∨ 0 < y.cls ∧ y.cls < (p.l.length : Int) ∧ (at_ p.l y.cls).tag = 7 := ⟨fun e => (by cases e), fun e => absurd (e.resolve_left h0).1 h1⟩
          exact fin false hb _ fun w' k' => hK4 false _ _ ⟨rfl, rfl, rfl, rfl, trivial⟩ ⟨k', hb⟩
    rintro bh w7 fr7 ⟨k7, hbh⟩
    have hE7 := k7.blk hE6 hEn
    refine Exists.intro y.from_ (And.intro (cellB hE7 rfl) ?_)
    refine Exists.intro y.to (And.intro (cellB hE7 rfl) ?_)
    refine Exists.intro y.at_ (And.intro (cellB hE7 rfl) ?_)
    refine Exists.intro y.cls (And.intro (cellB hE7 rfl) ?_)
    have h8 : cHnd y = 8 := rfl
    obtain ⟨i1, i2, i3, i4⟩ := hin
    refine call_ (ruL_ok base p h vl _ 2 [y.from_, y.to, y.at_, y.cls] 4 w7 k7.ri rfl (fun q hq => ?_) (by simp; omega)) ?_
    · simp only [List.mem_cons, List.not_mem_nil, or_false] at hq
      rcases hq with rfl | rfl | rfl | rfl
      · exact i1
      · exact i2
      · exact i3
      · exact i4
    rintro e w8 ⟨rfl, v8, k8⟩
    refine ⟨_, rfl, ?_⟩
    exact hK3 (v8, _) _ _ ⟨rfl, rfl, rfl, trivial⟩ ⟨(k6.then k7).then k8, Wri.by Wri.four rfl hbh⟩
  rintro ⟨v6, t6⟩ w6 fr6 ⟨k6, q6⟩
  dsimp only at k6 q6
  have p6 := q6.1
  have hM6 := k6.blk hM0 hMn
  have fin : ∀ {v' : Value} {t' : WT} {w' : World}, Kr w0 base p h v w' v' t' → Wri (optT p.l) (10 + csum cMp x.maps) t6 x.maps t' → ∃ v' t', Kr w base p h v w' v' t' ∧ Wri (codT p.l) (cCod x) t x t' := fun kk q => by
    refine ⟨_, _, k00.then kk, ?_⟩
    have hP : (t.2 || !b) = ((t.2 || !b) || !decide (x.stack ≤ 64 ∧ x.locals ≤ 64 ∧ 0 < x.bytes.length ∧ x.bytes.length ≤ 4096)) := by
      cases hbb : b with
      | false => simp
      | true =>
        have := hb.1 hbb
        rw [decide_eq_true (by omega)]
        simp
    have h1 := Wri.by (T := seqT n2 (seqT n2 (seqT blobT (seqT (hndsT p.l) (optT p.l))))) (t := (t.1, t.2 || !b)) (b := t.2 || !b) (p := decide (x.stack ≤ 64 ∧ x.locals ≤ 64 ∧ 0 < x.bytes.length ∧ x.bytes.length ≤ 4096)) (P := fun c : Cod => c.stack ≤ 64 ∧ c.locals ≤ 64 ∧ 0 < c.bytes.length ∧ c.bytes.length ≤ 4096) (f := fun c : Cod => (c.stack, c.locals, c.bytes, c.hands, c.maps)) (hf := fun x y _ _ e => by
      cases x; cases y; cases e; rfl) (Wri.assoc (q2.seq (q4.seq (q6.seq q)))) hP (decide_eq_true_iff)
    exact Wri.pre (b := b) (Wri.le h1 (by rw [hcost]; omega)) (hC b hb)
  refine seq_cut (σ := Unit) (fun _ => [(0, .pointer (some ⟨h, 0, none⟩)), (3, .pointer (some ⟨M, 0, none⟩))]) (fun _ w' => w' = w6 ∧ x.maps ≠ []) ?_ ?_
  rotate_left
  · intro K hK
    refine Exists.intro Am (Exists.intro x.maps.length (Exists.intro cm (And.intro (cellB hM6 rfl) ?_)))
    refine if_p (fun h0 => ?_) (fun h0 => ?_)
    · replace h0 : (x.maps.length : Int) = 0 := h0
      have hnil : x.maps = [] := List.length_eq_zero_iff.1 (by omega)
      refine call_ (ruL_ok base p h v6 t6 2 [0] 1 w6 k6.ri rfl (by simp) (by simp; omega)) ?_
      rintro e w8 ⟨rfl, v8, k8⟩
      refine ⟨_, rfl, ?_⟩
      refine ⟨rfl, fin (k6.then k8) ?_⟩
      have q := (Wri.n2 (t := t6) (n := 0))
      refine ⟨by have := q.1; omega, q.2.imp (fun e => ⟨e.1, e.2.imp id fun e' => absurd (n2_ok (by decide) (by decide)) e'⟩) fun e => ⟨e.1, e.2.1, .inl hnil, ?_⟩⟩
      rw [e.2.2.2, hnil]
      rfl
    · replace h0 : ¬ (x.maps.length : Int) = 0 := h0
      exact hK () _ _ ⟨rfl, rfl, trivial⟩ ⟨rfl, fun e => h0 (by rw [e]; rfl)⟩
  rintro _ wz frz ⟨hwz, hne⟩
  obtain rfl := hwz.symm
  refine seq_cut (σ := Value × WT) (fun _ => [(0, .pointer (some ⟨h, 0, none⟩)), (3, .pointer (some ⟨M, 0, none⟩))]) (fun s w' => Kr w0 base p h v w' s.1 s.2 ∧ Wri n2 2 t6 1 s.2) ?_ ?_
  rotate_left
  · intro K hK
    refine call_ (ruL_ok base p h v6 t6 2 [1] 1 w6 k6.ri rfl (by simp) (by simp; omega)) ?_
    rintro e w7 ⟨rfl, v7, k7⟩
    refine ⟨_, rfl, ?_⟩
    exact hK (v7, _) _ _ ⟨rfl, rfl, trivial⟩ ⟨k6.then k7, Wri.n2⟩
  rintro ⟨v7, t7⟩ w7 fr7 ⟨k7, q7⟩
  dsimp only at k7 q7
  have p7 := q7.1
  refine seq_cut (σ := Value × WT) (fun _ => [(0, .pointer (some ⟨h, 0, none⟩)), (3, .pointer (some ⟨M, 0, none⟩))]) (fun s w' => Kr w0 base p h v w' s.1 s.2 ∧ Wri (utfT p.l) 2 t7 tableS s.2) ?_ ?_
  rotate_left
  · intro K hK
    refine call_ (rwutf_ok base p h v7 t7 tableS w7 k7.ri hO (by omega)) ?_
    rintro e w8 ⟨rfl, v8, t8, k8, wr8⟩
    refine ⟨_, rfl, ?_⟩
    exact hK (v8, t8) _ _ ⟨rfl, rfl, trivial⟩ ⟨k7.then k8, wr8⟩
  rintro ⟨v8, t8⟩ w8 fr8 ⟨k8, q8⟩
  dsimp only at k8 q8
  have p8 := q8.1
  have hM8 := k8.blk hM0 hMn
  -- its maps
  obtain ⟨z, hz⟩ : ∃ z, z = w8.heap.size := ⟨_, rfl⟩
  refine seq_cut (σ := Unit) (fun _ => [(0, .pointer (some ⟨h, 0, none⟩)), (3, .pointer (some ⟨M, 0, none⟩)), (6, .pointer (some ⟨z, 0, none⟩))]) (fun _ w' => New w8 w' ∧ Nest w0 base p h v w' v8 t8 z (.slice none 0 0) ([], false)) ?_ ?_
  rotate_left
  · intro K hK
    refine Exists.intro p.A (Exists.intro p.l.length (Exists.intro p.c (And.intro (cellB k8.ri.blk rfl) ?_)))
    have nn := New.alloc w8 (.cells #[p.v, .slice none 0 0, .bool false] 135)
    have hbn := heap_alloc_new w8 (.cells #[p.v, .slice none 0 0, .bool false] 135)
    have nest := Nest.start k8 hbw0 nn rfl hbn
    rw [hz] at hK
    exact hK () _ _ ⟨rfl, rfl, rfl, trivial⟩ ⟨nn, nest⟩
  rintro _ w9 fr9 ⟨n9, nest9⟩
  have hM9 := n9.blk hM8
  obtain ⟨bm, hbm⟩ : ∃ bm, bm = !decide (x.maps.length ≤ 256) := ⟨_, rfl⟩
  refine seq_cut (σ := Value × WT) (fun _ => [(0, .pointer (some ⟨h, 0, none⟩)), (3, .pointer (some ⟨M, 0, none⟩)), (6, .pointer (some ⟨z, 0, none⟩))]) (fun s w' => Nest w0 base p h v w' v8 t8 z s.1 s.2 ∧ Wri n2 2 ([], false || !decide (x.maps.length ≤ 256)) (x.maps.length : Int) (s.2.1, bm || s.2.2)) ?_ ?_
  rotate_left
  · intro K hK
    refine Exists.intro Am (Exists.intro x.maps.length (Exists.intro cm (And.intro (cellB hM9 rfl) ?_)))
    refine call_ (ruL_ok base p z (.slice none 0 0) ([], false) 2 [(x.maps.length : Int)] 1 w9 nest9.inn rfl (by simp; omega) (by simp)) ?_
    rintro e wa ⟨rfl, va, ka⟩
    refine ⟨_, rfl, ?_⟩
    refine hK (va, _) _ _ ⟨rfl, rfl, rfl, trivial⟩ ⟨nest9.act ka, ?_⟩
    have q := (Wri.n2 (t := ([], false)) (n := (x.maps.length : Int))).mark bm
    rw [Bool.false_or, ← hbm]
    rw [Bool.or_false] at q
    exact q
  rintro ⟨va, ta⟩ wa fra ⟨nesta, wra⟩
  dsimp only at nesta wra
  refine seq_assign ?_
  refine seq_cut (σ := Value × WT) (fun _ => [(0, .pointer (some ⟨h, 0, none⟩)), (6, .pointer (some ⟨z, 0, none⟩))]) (fun s w' => Nest w0 base p h v w' v8 t8 z s.1 s.2 ∧ Wri (mapsT p.l) (2 + csum cMp x.maps) ([], false) x.maps (s.2.1, bm || s.2.2)) ?_ ?_
  rotate_left
  · intro K hK
    refine seq_assign ?_
    refine den_loop (σ := Nat × Int × Value × WT) (fun s => [(0, .pointer (some ⟨h, 0, none⟩)), (3, .pointer (some ⟨M, 0, none⟩)), (6, .pointer (some ⟨z, 0, none⟩)), (7, zi s.2.1), (8, zi (s.1 : Int))]) (fun m s wl => x.maps.length ≤ m + s.1 ∧ s.1 ≤ x.maps.length ∧ Nest w0 base p h v wl v8 t8 z s.2.2.1 s.2.2.2 ∧ WMs p.l ([], false) x.maps s.1 s.2.1 (s.2.2.2.1, bm || s.2.2.2.2) ∧ ((bm || s.2.2.2.2) = false → -1 ≤ s.2.1 ∧ s.2.1 ≤ 65535)) x.maps.length (0, -1, va, ta) ⟨rfl, rfl, rfl, rfl, rfl, trivial⟩ ⟨by dsimp only; omega, Nat.zero_le _, nesta, WMs.start wra, fun _ => ⟨(show (-1 : Int) ≤ -1 by decide), (show (-1 : Int) ≤ 65535 by decide)⟩⟩ ?_
    rintro m ⟨i, last, vl, tl⟩ wl frl ⟨hfuel, hil, nl, hw, hla⟩
    dsimp only at hfuel hil nl hw hla
    have hMl := nl.out.blk hM0 hMn
    refine seq_cut (σ := Unit) (fun _ => [(0, .pointer (some ⟨h, 0, none⟩)), (3, .pointer (some ⟨M, 0, none⟩)), (6, .pointer (some ⟨z, 0, none⟩)), (7, zi last), (8, zi (i : Int))]) (fun _ w' => w' = wl ∧ i < x.maps.length) ?_ ?_
    rotate_left
    · intro K2 hK2
      refine Exists.intro Am (Exists.intro x.maps.length (Exists.intro cm (And.intro (cellB hMl rfl) ?_)))
      refine if_p (fun hlt => ?_) (fun hge => ?_)
      · replace hlt : (i : Int) < (x.maps.length : Int) := hlt
        exact hK2 () _ _ ⟨rfl, rfl, rfl, rfl, rfl, trivial⟩ ⟨rfl, by omega⟩
      · replace hge : ¬ (i : Int) < (x.maps.length : Int) := hge
        have e : i = x.maps.length := by omega
        subst e
        exact hK (vl, tl) _ _ ⟨rfl, rfl, trivial⟩ ⟨nl, hw.done⟩
    rintro _ wy fry ⟨hwy, hi⟩
    obtain rfl := hwy.symm
    have hlt : (i : Int) < (x.maps.length : Int) := by omega
    obtain ⟨m, rfl⟩ : ∃ m', m = m' + 1 := ⟨m - 1, by omega⟩
    obtain ⟨_, _, he, _, gx⟩ := (nl.out.wide mpOk (by decide) hm1).get mpOk (by decide)
    cases he
    obtain ⟨a, cs, ea, hx, hc⟩ := gx i hi
    have hiy := hi4 _ (List.getElem_mem hi)
    have hcs : csum cMp (x.maps.take i) + cMp x.maps[i] ≤ csum cMp x.maps := by
      have h1 := csum_le cMp x.maps (i + 1)
      rw [List.take_succ_eq_append_getElem hi, csum_snoc] at h1
      exact h1
    have hw1 := hw.1
    simp only [List.length_nil] at hw1
    obtain ⟨y, hy⟩ : ∃ y, y = x.maps[i] := ⟨_, rfl⟩
    rw [← hy] at hx hiy hcs
    have hx0 := hx
    obtain ⟨_, _, rfl, hl1, hl2⟩ := hx
    obtain ⟨A1, c1, rfl, hy1, _⟩ := hl1.get tyOk (by decide)
    obtain ⟨A2, c2, rfl, hy2, _⟩ := hl2.get tyOk (by decide)
    have hcy : cMp y = 7 + 3 * y.locals.length + 3 * y.stack.length := rfl
    refine seq_cut (σ := Value × WT) (fun _ => [(0, .pointer (some ⟨h, 0, none⟩)), (3, .pointer (some ⟨M, 0, none⟩)), (6, .pointer (some ⟨z, 0, none⟩)), (7, zi y.at_), (8, zi (i : Int))]) (fun s w' => Nest w0 base p h v w' v8 t8 z s.1 s.2 ∧ Wri (mapT p.l last) (cMp y) (tl.1, bm || tl.2) y (s.2.1, bm || s.2.2) ∧ ((bm || s.2.2) = false → -1 ≤ y.at_ ∧ y.at_ ≤ 65535)) ?_ ?_
    · rintro ⟨vb, tb⟩ wb frb ⟨nb, qb, hlb⟩
      dsimp only at nb qb hlb
      have inc := incN hi hnm
      refine ⟨m, (i + 1, y.at_, vb, tb), by omega, ⟨rfl, rfl, rfl, rfl, inc, trivial⟩, by dsimp only; omega, by dsimp only; omega, nb, ?_, hlb⟩
      have := hw.step hi (by rw [← hy]; exact qb)
      rw [← hy] at this
      exact this
    intro K3 hK3
    refine block_ ?_
    obtain ⟨E, hE⟩ : ∃ E, E = wl.heap.size := ⟨_, rfl⟩
    refine seq_cut (σ := Unit) (fun _ => [(0, .pointer (some ⟨h, 0, none⟩)), (3, .pointer (some ⟨M, 0, none⟩)), (6, .pointer (some ⟨z, 0, none⟩)), (7, zi last), (8, zi (i : Int)), (9, .pointer (some ⟨E, 0, none⟩))]) (fun _ w' => Mb w0 base p h v v8 t8 z E y A1 c1 A2 c2 w' vl tl) ?_ ?_
    rotate_left
    · intro K4 hK4
      refine Exists.intro Am (Exists.intro x.maps.length (Exists.intro cm (And.intro (cellB hMl rfl) ?_)))
      refine And.intro (by omega) (And.intro hlt ?_)
      refine some_at ea ?_
      refine loadN_row (vs := (mpC y A1 c1 A2 c2).toList) (fun j u hu => by rw [Int.toNat_natCast]; exact hc j u hu) rfl ?_
      refine And.intro rfl ?_
      refine storeNew (vs := (mpC y A1 c1 A2 c2).toList) (arr := #[zi 0, .slice none 0 0, .slice none 0 0]) rfl (mpOk.one hx0) ?_
      intro wb hbb nb sb
      rw [hE] at hK4
      exact hK4 () _ _ ⟨rfl, rfl, rfl, rfl, rfl, rfl, trivial⟩ ⟨nl.new nb, hbb, nl.inn.hi (Nat.le_refl _), LRep.mod tyOk (by decide) hl1 (nb.mod.mono fun _ _ e => False.elim e), LRep.mod tyOk (by decide) hl2 (nb.mod.mono fun _ _ e => False.elim e)⟩
    rintro _ wb frb mb
    refine seq_cut (σ := Bool) (fun _ => [(0, .pointer (some ⟨h, 0, none⟩)), (3, .pointer (some ⟨M, 0, none⟩)), (6, .pointer (some ⟨z, 0, none⟩)), (7, zi last), (8, zi (i : Int)), (9, .pointer (some ⟨E, 0, none⟩))]) (fun b w' => Mb w0 base p h v v8 t8 z E y A1 c1 A2 c2 w' vl (tl.1, tl.2 || !b) ∧ (b = true ↔ last < y.at_ ∧ y.at_ ≤ 65535)) ?_ ?_
    rotate_left
    · intro K4 hK4
      refine Exists.intro y.at_ (And.intro (cellB mb.blk rfl) ?_)
      refine if_p (fun ha => ?_) (fun ha => ?_)
      · replace ha : last < y.at_ := ha
        refine Exists.intro y.at_ (And.intro (cellB mb.blk rfl) ?_)
        refine call_ (rmust_ok base p z vl tl (decide (y.at_ ≤ 65535)) wb mb.nest.inn) ?_
        rintro e wc ⟨rfl, kc⟩
        refine ⟨_, rfl, ?_⟩
        exact hK4 _ _ _ ⟨rfl, rfl, rfl, rfl, rfl, rfl, trivial⟩ ⟨mb.act kc, by rw [decide_eq_true_eq]; exact ⟨fun e => ⟨ha, e⟩, fun e => e.2⟩⟩
      · replace ha : ¬ last < y.at_ := ha
        refine call_ (rmust_ok base p z vl tl false wb mb.nest.inn) ?_
        rintro e wc ⟨rfl, kc⟩
        refine ⟨_, rfl, ?_⟩
        exact hK4 false _ _ ⟨rfl, rfl, rfl, rfl, rfl, rfl, trivial⟩ ⟨mb.act kc, ⟨fun e => (by cases e), fun e => absurd e.1 ha⟩⟩
    rintro bb wc frc ⟨mc, hbb⟩
    refine seq_cut (σ := Value × WT) (fun _ => [(0, .pointer (some ⟨h, 0, none⟩)), (3, .pointer (some ⟨M, 0, none⟩)), (6, .pointer (some ⟨z, 0, none⟩)), (7, zi last), (8, zi (i : Int)), (9, .pointer (some ⟨E, 0, none⟩))]) (fun s w' => Mb w0 base p h v v8 t8 z E y A1 c1 A2 c2 w' s.1 s.2 ∧ Wri n1 1 (tl.1, tl.2 || !bb) 255 s.2) ?_ ?_
    rotate_left
    · intro K4 hK4
      refine call_ (ruL_ok base p z vl _ 1 [255] 1 wc mc.nest.inn rfl (by simp) (by simp; omega)) ?_
      rintro e wd ⟨rfl, vd, kd⟩
      refine ⟨_, rfl, ?_⟩
      exact hK4 (vd, _) _ _ ⟨rfl, rfl, rfl, rfl, rfl, rfl, trivial⟩ ⟨mc.act kd, Wri.n1⟩
    rintro ⟨vd, td⟩ wd frd ⟨md, qd⟩
    dsimp only at md qd
    have pd := qd.1
    dsimp only at pd
    obtain ⟨zz, hzz⟩ : ∃ zz, zz = clamp (IntKind.i64.wrap (IntKind.i64.wrap (y.at_ - last) - 1)) := ⟨_, rfl⟩
    refine seq_cut (σ := Value × WT) (fun _ => [(0, .pointer (some ⟨h, 0, none⟩)), (3, .pointer (some ⟨M, 0, none⟩)), (6, .pointer (some ⟨z, 0, none⟩)), (7, zi last), (8, zi (i : Int)), (9, .pointer (some ⟨E, 0, none⟩))]) (fun s w' => Mb w0 base p h v v8 t8 z E y A1 c1 A2 c2 w' s.1 s.2 ∧ Wri n2 2 td zz s.2) ?_ ?_
    rotate_left
    · intro K4 hK4
      refine Exists.intro y.at_ (And.intro (cellB md.blk rfl) ?_)
      have hcall := ruL_ok base p z vd td 2 [zz] 1 wd md.nest.inn rfl (fun q hq => by rw [List.mem_singleton.1 hq, hzz]; exact clamp_bd _) (by simp; omega)
      rw [hzz] at hcall
      refine call_ hcall ?_
      rw [← hzz]
      rintro e we ⟨rfl, ve, ke⟩
      refine ⟨_, rfl, ?_⟩
      exact hK4 (ve, _) _ _ ⟨rfl, rfl, rfl, rfl, rfl, rfl, trivial⟩ ⟨md.act ke, Wri.n2⟩
    rintro ⟨ve, te⟩ we fre ⟨me, qe⟩
    dsimp only at me qe
    have pe := qe.1
    refine seq_cut (σ := Value × WT) (fun _ => [(0, .pointer (some ⟨h, 0, none⟩)), (3, .pointer (some ⟨M, 0, none⟩)), (6, .pointer (some ⟨z, 0, none⟩)), (7, zi last), (8, zi (i : Int)), (9, .pointer (some ⟨E, 0, none⟩))]) (fun s w' => Mb w0 base p h v v8 t8 z E y A1 c1 A2 c2 w' s.1 s.2 ∧ Wri (tT true p.l) (2 + 3 * y.locals.length) te y.locals s.2) ?_ ?_
    rotate_left
    · intro K4 hK4
      refine Exists.intro A1 (Exists.intro y.locals.length (Exists.intro c1 (And.intro (cellB me.blk rfl) ?_)))
      refine call_ (rtypes_ok base p z ve te _ y.locals true we me.nest.inn hO (LRep.weak tyOk me.l1 fun q _ e => .inr (me.nest.at_ q e)) (by omega)) ?_
      rintro e wf ⟨rfl, vf, tf, kf, qf⟩
      refine ⟨_, rfl, ?_⟩
      exact hK4 (vf, tf) _ _ ⟨rfl, rfl, rfl, rfl, rfl, rfl, trivial⟩ ⟨me.act kf, qf⟩
    rintro ⟨vf, tf⟩ wf frf ⟨mf, qf⟩
    dsimp only at mf qf
    have pf := qf.1
    refine seq_cut (σ := Value × WT) (fun _ => [(0, .pointer (some ⟨h, 0, none⟩)), (3, .pointer (some ⟨M, 0, none⟩)), (6, .pointer (some ⟨z, 0, none⟩)), (7, zi last), (8, zi (i : Int)), (9, .pointer (some ⟨E, 0, none⟩))]) (fun s w' => Mb w0 base p h v v8 t8 z E y A1 c1 A2 c2 w' s.1 s.2 ∧ Wri (tT false p.l) (2 + 3 * y.stack.length) tf y.stack s.2) ?_ ?_
    rotate_left
    · intro K4 hK4
      refine Exists.intro A2 (Exists.intro y.stack.length (Exists.intro c2 (And.intro (cellB mf.blk rfl) ?_)))
      refine call_ (rtypes_ok base p z vf tf _ y.stack false wf mf.nest.inn hO (LRep.weak tyOk mf.l2 fun q _ e => .inr (mf.nest.at_ q e)) (by omega)) ?_
      rintro e wg ⟨rfl, vg, tg, kg, qg⟩
      refine ⟨_, rfl, ?_⟩
      exact hK4 (vg, tg) _ _ ⟨rfl, rfl, rfl, rfl, rfl, rfl, trivial⟩ ⟨mf.act kg, qg⟩
    rintro ⟨vg, tg⟩ wg frg ⟨mg, qg⟩
    dsimp only at mg qg
    have hsum := mp_sum (bm := bm) (u := tl) hla hbb (fun hl hP => by
      have e1 : IntKind.i64.wrap (y.at_ - last) = y.at_ - last := wrap_i64 (by omega) (by omega)
      rw [hzz, e1, wrap_i64 (by omega) (by omega)]
      exact clamp_id (by omega) (by omega)) qd qe qf qg
    refine Exists.intro y.at_ (And.intro (cellB mg.blk rfl) ?_)
    exact hK3 (vg, tg) _ _ ⟨rfl, rfl, rfl, rfl, rfl, trivial⟩ ⟨mg.nest, hsum.1, hsum.2⟩
  rintro ⟨vb, tb⟩ wb frb ⟨nb, qb⟩
  dsimp only at nb qb
  have pb := qb.1
  simp only [List.length_nil] at pb
  refine seq_cut (σ := Unit) (fun _ => [(0, .pointer (some ⟨h, 0, none⟩)), (6, .pointer (some ⟨z, 0, none⟩))]) (fun _ w' => Nest w0 base p h v w' v8 (t8.1, t8.2 || tb.2) z vb tb) ?_ ?_
  rotate_left
  · intro K hK
    refine Exists.intro tb.2 (And.intro (cellB nb.inn.blk rfl) ?_)
    refine call_ (rmust_ok base p h v8 t8 (!tb.2) wb nb.out.ri) ?_
    rintro e wc ⟨rfl, kc⟩
    refine ⟨_, rfl, ?_⟩
    rw [Bool.not_not] at kc
    exact hK () _ _ ⟨rfl, rfl, trivial⟩ (nb.must kc)
  rintro _ wc frc nc
  refine seq_cut (σ := Value) (fun _ => [(0, .pointer (some ⟨h, 0, none⟩)), (6, .pointer (some ⟨z, 0, none⟩))]) (fun v' w' => Nest w0 base p h v w' v' (t8.1 ++ enc 4 (tb.1.length : Int), t8.2 || tb.2) z vb tb) ?_ ?_
  rotate_left
  · intro K hK
    obtain ⟨A2, c2, rfl, _⟩ := own_slice nc.inn.own
    refine Exists.intro A2 (Exists.intro tb.1.length (Exists.intro c2 (And.intro (cellB nc.inn.blk rfl) ?_)))
    refine call_ (ruL_ok base p h v8 (t8.1, t8.2 || tb.2) 4 [(tb.1.length : Int)] 1 wc nc.out.ri rfl (by simp; omega) (by simp; omega)) ?_
    rintro e wd ⟨rfl, vd, kd⟩
    refine ⟨_, rfl, ?_⟩
    rw [noteU4 (by omega)] at kd
    exact hK vd _ _ ⟨rfl, rfl, trivial⟩ (nc.must kd)
  rintro vd wd frd nd0
  obtain ⟨td, htd⟩ : ∃ td, td = (t8.1 ++ enc 4 (tb.1.length : Int), t8.2 || tb.2) := ⟨_, rfl⟩
  rw [← htd] at nd0
  have hld : td.1.length = t8.1.length + 4 := by rw [htd]; simp only [List.length_append, enc_length]
  obtain ⟨A4, c4, rfl, _⟩ := own_slice nd0.out.ri.own
  obtain ⟨A2, c2, rfl, _⟩ := own_slice nd0.inn.own
  refine draw_ (w := wd) ok (.q 0 (.q 1 (.q 2 (.q 3 (.q 4 (.q 5 (.q 6 (.q 7 (.q 8 (.e 9 (.q 10 (.q 11 (.e 12 .done))))))))))))) [12] (fun w'' : World => w''.heap[h]? = some (.cells #[p.v, .slice A4 td.1.length c4, .bool td.2] 135 (0, 0)) ∧ w''.heap[z]? = some (.cells #[p.v, .slice A2 tb.1.length c2, .bool tb.2] 135 (0, 0))) (by kernel_rfl) (by kernel_rfl) (by kernel_rfl) (by kernel_rfl) (by kernel_rfl) ⟨(New.drew wd).blk nd0.out.ri.blk, (New.drew wd).blk nd0.inn.blk⟩ ?_
  refine Exists.intro A4 (Exists.intro td.1.length (Exists.intro c4 (And.intro (fun w'' hw => cellB hw.1 rfl) ?_)))
  refine Exists.intro A2 (Exists.intro tb.1.length (Exists.intro c2 (And.intro (fun w'' hw => cellB hw.2 rfl) ?_)))
  have nw := New.drew wd
  have nnd := nd0.new nw
  obtain ⟨_, _, he, _, _, row2, _⟩ := own_slice nnd.inn.own
  cases he
  refine eff_app rfl rfl (fun _ _ => rfl) ?_
  refine append2_ ok rfl rfl rfl rfl nnd.out.ri.own rfl rfl row2 (by rw [bvs_length]; exact (Nat.mul_one _).symm) (bvs_one _) (by decide) rfl (by show (td.1.length + tb.1.length) * 1 ≤ _; omega) (by omega) nnd.out.ri.bw ?_
  intro A7 c7 we own7 mod7 st7
  have hb7 := mod7.blk nnd.out.ri.blk (fun e => nnd.out.ri.off e.symm)
  have hz7 := mod7.blk nnd.inn.blk (fun e => nnd.sep z (.inr rfl) (.inl e))
  refine Exists.intro (fun w'' : World => w''.heap[h]? = some (.cells #[p.v, .slice A4 td.1.length c4, .bool td.2] 135 (0, 0)) ∧ w''.heap[z]? = some (.cells #[p.v, .slice A2 tb.1.length c2, .bool tb.2] 135 (0, 0))) ?_
  refine And.intro (fun _ h => h) ?_
  refine And.intro ⟨hb7, hz7⟩ ?_
  refine And.intro ⟨_, cellB hb7 rfl⟩ (And.intro (fzB hb7 _) (force_ ?_))
  refine stK hb7 (show (1 : Nat) < 3 by decide) ?_
  intro wf hb8 m8 s8
  have kf := (nd0.add nw mod7 own7 st7 m8 hb8).1
  refine ⟨rfl, fin kf ?_⟩
  have qr := Wri.part (t := t8) qb
  have e8 : (t8.2 || (bm || tb.2)) = (t8.2 || tb.2) := by
    cases h8 : t8.2 with
    | true => rfl
    | false =>
      have hbt := bad4 (q6.keep (q7.keep (q8.keep h8)))
      have := (hb.1 hbt).2.2.2.2.2.2.2
      rw [hbm, decide_eq_true this]
      rfl
  dsimp only at qr
  rw [e8] at qr
  rw [htd]
  dsimp only
  rw [List.append_assoc]
  exact Wri.le (Wri.opt q7 q8 qr hne) (by omega)

end Go.Proofs.YtdcaafldnbcdkaaGreatDoor.Class

/-! ### KBytes -/
namespace Go.Proofs.YtdcaafldnbcdkaaGreatDoor.Class
open Go Go.Proofs.YtdcaafldnbcdkaaGreatDoor Go.Proofs.YtdcaafldnbcdkaaGreatDoor.Eng Go.Proofs Go.Proofs.YtdcaafldnbcdkaaGreatDoor.Word Go.Proofs.YtdcaafldnbcdkaaGreatDoor.Fmt
open Go.Proofs.YtdcaafldnbcdkaaGreatDoor.Pool (Ent at_ poolF strV entC entV EntOk Pl OkPool both own_low tagAt entF ents okB Okp)
set_option maxRecDepth 10000

/-- The bytes so far, in a row of one's own. -/
structure Gb (w : World) (w' : World) (A : Option Addr) (c : Nat) (bs : List UInt8) : Prop where
  new : New w w'
  own : w'.ownsRow w.heap.size 5 1 (.slice A bs.length c) bs.length (bvs bs)
theorem Gb.put {w w1 w2 : World} {A A' : Option Addr} {c c' : Nat} {bs bs' : List UInt8} (g : Gb w w1 A c bs) (n : New w1 w2) (o : w2.ownsRow w1.heap.size 5 1 (.slice A' bs'.length c') bs'.length (bvs bs')) : Gb w w2 A' c' bs' := by
  refine ⟨g.new.trans n, o.1, ?_⟩
  rcases o.2 with h' | ⟨b, cap, cur, h1, h2, h3⟩
  · exact .inl h'
  · exact .inr ⟨b, cap, cur, h1, Nat.le_trans g.new.size h2, h3⟩
theorem RPut1 {w w1 : World} {A : Option Addr} {c : Nat} {bs : List UInt8} (g : Gb w w1 A c bs) (k : Nat) (sign : Bool) (zs : List Int) (n : Nat) (hn : n = zs.length) (hg : good (k : Int) sign zs = true) (hb : ∀ z ∈ zs, -9223372036854775808 ≤ z ∧ z ≤ 9223372036854775807) (hm : bs.length + 8 * zs.length ≤ 140737488355328) :
    Calls Tryz.prog 98 #[.slice A bs.length c, .int .i64 (k : Int), .bool sign, .slice (some ⟨w1.heap.size, 0, none⟩) n n] (w1.alloc (.cells (ivs zs).toArray 3)) fun e w' => ∃ A' c', e = .returned (.tuple #[.slice A' (bs ++ zs.flatMap (enc k)).length c', .int .i64 0]) ∧ Gb w w' A' c' (bs ++ zs.flatMap (enc k)) ∧ New w1 w' := by
  have n1 := New.alloc w1 (.cells (ivs zs).toArray 3)
  obtain ⟨_, _, he, h1, h2, row, _⟩ := own_slice g.own
  cases he
  have e1 : allBs bs (k : Int) sign zs = bs ++ zs.flatMap (enc k) := by
    unfold allBs
    rw [hg, if_pos rfl, Int.toNat_natCast]
  have e2 : allErr (k : Int) sign zs = 0 := by
    unfold allErr
    rw [hg, if_pos rfl]
  have h := PutO_ok A c bs (k : Int) sign (some ⟨w1.heap.size, 0, none⟩) n n zs _ (row.new n1) h1 h2 (row_alloc w1 (ivs zs) _ _) hn hb hm
  rw [e1, e2] at h
  refine h.mono ?_
  rintro e w' ⟨A', c', rfl, nn, o, _⟩
  exact ⟨A', c', rfl, (Gb.mk (g.new.trans n1) (own_new n1 g.own)).put nn (o hg), n1.trans nn⟩
/-- Bytes behind. -/
theorem Gb.app {w w1 w2 : World} {A A' : Option Addr} {c c' n : Nat} {bs ys : List UInt8} (g : Gb w w1 A c bs) (n1 : New w1 w2) {w3 : World} (hn : n = bs.length + ys.length) (o : w3.ownsRow w.heap.size 5 1 (.slice A' n c') n (bvs bs ++ bvs ys)) (m : Mod (fun k => some k = (Value.slice A bs.length c).ownBlock) w2 w3) : Gb w w3 A' c' (bs ++ ys) := by
  refine ⟨Mod.trans (g.new.trans n1) m fun b hb e => ?_, ?_⟩
  · have := (g.own.lt b e.symm).1
    omega
  · rw [List.length_append, ← hn, bvs_append]
    exact o
theorem enc1 (n : Int) : bvs (enc 1 n) = [.int .u8 (IntKind.u8.wrap n)] := by
  rw [enc_succ]
  have e : enc 0 (n / 256) = [] := List.eq_nil_of_length_eq_zero (enc_length 0 _)
  rw [e, wrap_u8]
  show [Value.int .u8 ((UInt8.ofNat (n % 256).toNat).toNat : Int)] = _
  rw [UInt8.toNat_ofNat']
  congr 2
  omega
theorem fits2_hi {n : Int} (h : Word.fits (2 : Nat) n false = true) : 0 ≤ n ∧ n < 65536 := by
  have h1 := fits_i64 (k := 2) (.inr (.inl rfl)) h
  simp [Word.fits] at h
  omega
theorem RPoolBytes_ok (A : Option Addr) (c : Nat) (l : List Ent) (w : World) (hl : Pl w A l.length l) (ho : okB l = true) :
    Calls Tryz.prog 70 #[.slice A l.length c] w fun e w' => ∃ A' c', e = .returned (.slice A' (poolF.enc l).length c') ∧ Gb w w' A' c' (poolF.enc l) := by
  have hO := (Pool.okB_iff l).1 ho
  have h1024 := hO.2
  have hpos := hO.1.pos
  refine enter ok Tryz.func70 rfl rfl rfl ?_
  refine seq_assign ?_
  refine seq_cut (σ := Option Addr × Nat × List UInt8) (fun s => [(0, .slice A l.length c), (3, .slice s.1 s.2.2.length s.2.1)]) (fun s w' => Gb w w' s.1 s.2.1 s.2.2 ∧ s.2.2 = enc 2 (l.length : Int)) ?_ ?_
  rotate_left
  · intro K hK
    have g0 : Gb w w none 0 [] := ⟨New.refl w, ⟨rfl, .inl ⟨rfl, rfl⟩⟩⟩
    refine call_ (RPut1 g0 2 false [(l.length : Int)] 1 rfl (good_one Pool.w2 (Pool.fits2 (by omega) (by omega)).1) (fun q hq => by rw [List.mem_singleton.1 hq]; omega) (by simp)) ?_
    rintro e w1 ⟨A1, c1, rfl, g1, _⟩
    refine ⟨_, rfl, ?_⟩
    exact hK (A1, c1, _) _ _ ⟨rfl, rfl, trivial⟩ ⟨g1, by simp⟩
  rintro ⟨A1, c1, b1⟩ w1 fr1 ⟨g1, hb1⟩
  dsimp only at g1 hb1
  refine seq_cut (σ := Option Addr × Nat × List UInt8) (fun s => [(3, .slice s.1 s.2.2.length s.2.1)]) (fun s w' => Gb w w' s.1 s.2.1 s.2.2 ∧ s.2.2 = poolF.enc l) ?_ ?_
  · rintro ⟨A2, c2, b2⟩ w2 fr2 ⟨g2, hb2⟩
    dsimp only at g2 hb2
    subst hb2
    exact ⟨A2, c2, rfl, g2⟩
  intro K hK
  refine seq_assign ?_
  have hh := hO.1.head
  have e1 : ents (l.take 1) = [] := by
    have e := Pool.ents_take (l := l) (i := 0) (by omega)
    have hh0 : (at_ l ((0 : Nat) : Int)).tag = 0 := by
      have : at_ l ((0 : Nat) : Int) = Pool.e0 := hh
      rw [this]
      rfl
    rw [if_pos hh0] at e
    rw [e]
    rfl
  refine den_loop (σ := Nat × Option Addr × Nat × List UInt8) (fun s => [(0, .slice A l.length c), (3, .slice s.2.1 s.2.2.2.length s.2.2.1), (5, zi (s.1 : Int))])
    (fun m s wl => l.length ≤ m + s.1 ∧ s.1 ≤ l.length ∧ Gb w wl s.2.1 s.2.2.1 s.2.2.2 ∧ s.2.2.2 = enc 2 (l.length : Int) ++ ents (l.take s.1)) l.length (1, A1, c1, b1) ⟨rfl, rfl, rfl, trivial⟩ ⟨by dsimp only; omega, hpos, g1, by dsimp only; rw [hb1, e1, List.append_nil]⟩ ?_
  rintro m ⟨i, A3, c3, b3⟩ wl frl ⟨hfuel, hil, gl, hbl⟩
  dsimp only at hfuel hil gl hbl
  refine seq_cut (σ := Unit) (fun _ => [(0, .slice A l.length c), (3, .slice A3 b3.length c3), (5, zi (i : Int))]) (fun _ w' => w' = wl ∧ i < l.length) ?_ ?_
  rotate_left
  · intro K2 hK2
    refine if_p (fun hlt => ?_) (fun hge => ?_)
    · replace hlt : (i : Int) < (l.length : Int) := hlt
      exact hK2 () _ _ ⟨rfl, rfl, rfl, trivial⟩ ⟨rfl, by omega⟩
    · replace hge : ¬ (i : Int) < (l.length : Int) := hge
      have e : i = l.length := by omega
      rw [e, List.take_length] at hbl
      exact hK (A3, c3, b3) _ _ ⟨rfl, trivial⟩ ⟨gl, by rw [hbl, ← Pool.ents_all hO.1]; rfl⟩
  rintro _ wy fry ⟨hwy, hi⟩
  obtain rfl := hwy.symm
  have hlt : (i : Int) < (l.length : Int) := by omega
  obtain ⟨m, rfl⟩ : ∃ m', m = m' + 1 := ⟨m - 1, by omega⟩
  have hln := Pool.ents_take_len hO hl.oks i (by omega)
  have hb3 : b3.length ≤ 100000000 := by
    rw [hbl, List.length_append, enc_length]
    omega
  refine seq_cut (σ := Option Addr × Nat × List UInt8) (fun s => [(0, .slice A l.length c), (3, .slice s.1 s.2.2.length s.2.1), (5, zi (i : Int))]) (fun s w' => Gb w w' s.1 s.2.1 s.2.2 ∧ s.2.2 = b3 ++ if (at_ l i).tag = 0 then [] else entF.enc (at_ l i)) ?_ ?_
  · rintro ⟨A4, c4, b4⟩ w4 fr4 ⟨g4, hb4⟩
    dsimp only at g4 hb4
    have hinc : Value.int .i64 (IntKind.i64.wrap ((i : Int) + 1)) = .int .i64 ((i + 1 : Nat) : Int) := by
      rw [wrap_i64 (by omega) (by omega)]
      rfl
    exact ⟨m, (i + 1, A4, c4, b4), by omega, ⟨rfl, rfl, hinc, trivial⟩, by dsimp only; omega, by dsimp only; omega, g4, by dsimp only; rw [hb4, hbl, Pool.ents_take hi, List.append_assoc]⟩
  intro K3 hK3
  refine block_ ?_
  have hplx := hl.mod gl.new fun _ _ _ h => h.elim
  obtain ⟨a, ea, hxo, hxc⟩ := hplx.at_ (i := i) (by omega)
  obtain ⟨X, hX⟩ : ∃ X, X = wl.heap.size := ⟨_, rfl⟩
  refine seq_cut (σ := Unit) (fun _ => [(0, .slice A l.length c), (3, .slice A3 b3.length c3), (5, zi (i : Int)), (6, .pointer (some ⟨X, 0, none⟩))]) (fun _ w' => New wl w' ∧ w'.heap[X]? = some (.cells (entC (at_ l i)).toArray 85 (0, 0))) ?_ ?_
  rotate_left
  · intro K4 hK4
    refine And.intro (by omega) (And.intro hlt ?_)
    refine some_at ea ?_
    refine loadN_row (vs := entC (at_ l i)) (fun j u hu => by rw [Int.toNat_natCast]; exact hxc j u hu) rfl ?_
    refine And.intro rfl ?_
    refine storeNew (vs := entC (at_ l i)) (arr := Pool.entZ) rfl (Pool.entC_one _) ?_
    intro w5 hb5 n5 s5
    rw [hX] at hK4
    exact hK4 () _ _ ⟨rfl, rfl, rfl, rfl, trivial⟩ ⟨n5, hb5⟩
  rintro _ w5 fr5 ⟨n5, hX5⟩
  refine seq_cut (σ := Unit) (fun _ => [(0, .slice A l.length c), (3, .slice A3 b3.length c3), (5, zi (i : Int)), (6, .pointer (some ⟨X, 0, none⟩))]) (fun _ w' => w' = w5 ∧ ¬ (at_ l i).tag = 0) ?_ ?_
  rotate_left
  · intro K4 hK4
    refine Exists.intro (at_ l i).tag (And.intro (cellB hX5 rfl) ?_)
    refine if_p (fun h0 => ?_) (fun h0 => ?_)
    · replace h0 : (at_ l i).tag = 0 := h0
      exact hK3 (A3, c3, b3) _ _ ⟨rfl, rfl, rfl, trivial⟩ ⟨⟨gl.new.trans n5, own_new n5 gl.own⟩, by rw [if_pos h0, List.append_nil]⟩
    · exact hK4 () _ _ ⟨rfl, rfl, rfl, rfl, trivial⟩ ⟨rfl, h0⟩
  rintro _ wz frz ⟨hwz, h0⟩
  obtain rfl := hwz.symm
  rw [if_neg h0] at hK3
  have hok := Pool.right_ent hO hl.oks hi h0
  obtain ⟨hf1, hparts⟩ := Pool.ent_parts hok
  have g5 : Gb w w5 A3 c3 b3 := ⟨gl.new.trans n5, own_new n5 gl.own⟩
  -- its tag
  have hb3i : (b3 ++ enc 1 (at_ l i).tag).length = b3.length + 1 := by rw [List.length_append, enc_length]
  refine seq_cut (σ := Option Addr × Nat) (fun s => [(0, .slice A l.length c), (3, .slice s.1 (b3 ++ enc 1 (at_ l i).tag).length s.2), (5, zi (i : Int)), (6, .pointer (some ⟨X, 0, none⟩))]) (fun s w' => Gb w w' s.1 s.2 (b3 ++ enc 1 (at_ l i).tag) ∧ w'.heap[X]? = some (.cells (entC (at_ l i)).toArray 85 (0, 0))) ?_ ?_
  rotate_left
  · intro K4 hK4
    refine Exists.intro (at_ l i).tag (And.intro (cellB hX5 rfl) ?_)
    have n6 := New.alloc w5 (.cells #[.int .u8 (IntKind.u8.wrap (at_ l i).tag)] 5)
    have row6 : Row (w5.alloc (.cells #[.int .u8 (IntKind.u8.wrap (at_ l i).tag)] 5)) (some ⟨w5.heap.size, 0, none⟩) (bvs (enc 1 (at_ l i).tag)) := by
      rw [enc1]
      exact row_alloc w5 [.int .u8 (IntKind.u8.wrap (at_ l i).tag)] _ _
    refine append2_ ok rfl rfl rfl rfl (own_new n6 g5.own) rfl rfl row6 (by rw [bvs_length, enc_length]; rfl) (bvs_one _) (by decide) rfl (by show (b3.length + 1) * 1 ≤ _; omega) (by omega) (Nat.le_trans g5.new.size n6.size) ?_
    intro A7 c7 w7 own7 mod7 st7
    have hXo : ¬ some X = (Value.slice A3 b3.length c3).ownBlock := fun e => by
      have h1 := (gl.own.lt X e.symm).2
      omega
    have g7 := g5.app n6 (by rw [enc_length]) own7 mod7
    have e7 : Value.slice A7 (b3.length + 1) c7 = .slice A7 (b3 ++ enc 1 (at_ l i).tag).length c7 := by rw [hb3i]
    exact hK4 (A7, c7) _ _ ⟨rfl, e7, rfl, rfl, trivial⟩ ⟨g7, mod7.blk (n6.blk hX5) hXo⟩
  rintro ⟨A7, c7⟩ w7 fr7 ⟨g7, hX7⟩
  dsimp only at g7
  refine seq_cut (σ := Int) (fun k => [(0, .slice A l.length c), (3, .slice A7 (b3 ++ enc 1 (at_ l i).tag).length c7), (5, zi (i : Int)), (6, .pointer (some ⟨X, 0, none⟩)), (34, zi k)]) (fun k w' => w' = w7 ∧ (at_ l i).tag = k) ?_ ?_
  rotate_left
  · intro K4 hK4
    refine Exists.intro (at_ l i).tag (And.intro (cellB hX7 rfl) ?_)
    exact hK4 _ _ _ ⟨rfl, rfl, rfl, rfl, rfl, trivial⟩ ⟨rfl, rfl⟩
  rintro kd ww frw ⟨hww, hkd⟩
  obtain rfl := hww.symm
  have hen := hxo.n
  refine block_ ?_
  refine if_p (fun h1 => ?_) (fun h1 => ?_)
  · replace h1 : kd = 1 := h1
    cases hparts with
    | utf _ hf he =>
      have htl := Pool.fits2_lt hf
      have hsz : ((ByteArray.mk (at_ l i).text.toArray).size : Int) = (((at_ l i).text.length : Nat) : Int) := by rw [Pool.size_str]
      refine seq_cut (σ := Option Addr × Nat × List UInt8) (fun s => [(0, .slice A l.length c), (3, .slice s.1 s.2.2.length s.2.1), (5, zi (i : Int)), (6, .pointer (some ⟨X, 0, none⟩))]) (fun s w' => Gb w w' s.1 s.2.1 s.2.2 ∧ s.2.2 = b3 ++ enc 1 (at_ l i).tag ++ enc 2 ((at_ l i).text.length : Int) ∧ w'.heap[X]? = some (.cells (entC (at_ l i)).toArray 85 (0, 0))) ?_ ?_
      rotate_left
      · intro K5 hK5
        refine Exists.intro (⟨(at_ l i).text.toArray⟩ : ByteArray) (And.intro (cellB hX7 rfl) ?_)
        have hp := RPut1 g7 2 false [((ByteArray.mk (at_ l i).text.toArray).size : Int)] 1 rfl (good_one Pool.w2 (by rw [hsz]; exact hf)) (fun q hq => by rw [List.mem_singleton.1 hq, hsz]; omega) (by simp only [List.length_cons, List.length_nil, List.length_append, enc_length]; omega)
        refine call_ hp ?_
        rintro e w8 ⟨A8, c8, rfl, g8, n8⟩
        have hX8 := n8.blk hX7
        refine ⟨_, rfl, ?_⟩
        exact hK5 (A8, c8, _) _ _ ⟨rfl, rfl, rfl, rfl, trivial⟩ ⟨g8, by rw [hsz]; simp, hX8⟩
      rintro ⟨A8, c8, b8⟩ w8 fr8 ⟨g8, hb8, hX8⟩
      dsimp only at g8 hb8
      have hl8 : b8.length = b3.length + 3 := by rw [hb8]; simp only [List.length_append, enc_length]
      refine Exists.intro (⟨(at_ l i).text.toArray⟩ : ByteArray) (And.intro (cellB hX8 rfl) ?_)
      refine append_str_ ok rfl rfl rfl rfl rfl rfl rfl rfl rfl g8.own rfl rfl (by omega) g8.new.size ?_
      intro A9 c9 w9 own9 mod9
      have g9 := g8.app (New.refl w8) rfl own9 mod9
      have e9 : Value.slice A9 (b8.length + (at_ l i).text.length) c9 = .slice A9 (b8 ++ (at_ l i).text).length c9 := by rw [List.length_append]
      exact hK3 (A9, c9, _) _ _ ⟨rfl, e9, rfl, trivial⟩ ⟨g9, by rw [he, hb8]; simp⟩
    | int t => omega
    | long t => omega
    | cls t => omega
    | two t => exact absurd (hkd.trans h1) t.1
  replace h1 : ¬ kd = 1 := h1
  refine if_p (fun h3 => ?_) (fun h3 => ?_)
  · replace h3 : kd = 3 := h3
    cases hparts with
    | int _ hf he =>
      refine Exists.intro (at_ l i).n (And.intro (cellB hX7 rfl) ?_)
      refine call_ (RPut1 g7 4 true [(at_ l i).n] 1 rfl (good_one Pool.w4 hf) (fun q hq => by rw [List.mem_singleton.1 hq]; exact hen) (by simp only [List.length_cons, List.length_nil, List.length_append, enc_length]; omega)) ?_
      rintro e w8 ⟨A8, c8, rfl, g8, _⟩
      refine ⟨_, rfl, ?_⟩
      exact hK3 (A8, c8, _) _ _ ⟨rfl, rfl, rfl, trivial⟩ ⟨g8, by rw [he]; simp⟩
    | utf t => omega
    | long t => omega
    | cls t => omega
    | two t => exact absurd (hkd.trans h3) t.2.1
  replace h3 : ¬ kd = 3 := h3
  refine if_p (fun h5 => ?_) (fun h5 => ?_)
  · replace h5 : kd = 5 := h5
    cases hparts with
    | long _ hf he =>
      refine Exists.intro (at_ l i).n (And.intro (cellB hX7 rfl) ?_)
      refine call_ (RPut1 g7 8 true [(at_ l i).n] 1 rfl (good_one Pool.w8 hf) (fun q hq => by rw [List.mem_singleton.1 hq]; exact hen) (by simp only [List.length_cons, List.length_nil, List.length_append, enc_length]; omega)) ?_
      rintro e w8 ⟨A8, c8, rfl, g8, _⟩
      refine ⟨_, rfl, ?_⟩
      exact hK3 (A8, c8, _) _ _ ⟨rfl, rfl, rfl, trivial⟩ ⟨g8, by rw [he]; simp⟩
    | utf t => omega
    | int t => omega
    | cls t => omega
    | two t => exact absurd (hkd.trans h5) t.2.2.1
  replace h5 : ¬ kd = 5 := h5
  refine if_p (fun h7 => ?_) (fun h7 => ?_)
  · replace h7 : kd = 7 := h7
    cases hparts with
    | cls _ hf he =>
      refine Exists.intro (at_ l i).a (And.intro (cellB hX7 rfl) ?_)
      refine call_ (RPut1 g7 2 false [(at_ l i).a] 1 rfl (good_one Pool.w2 hf) (fun q hq => by rw [List.mem_singleton.1 hq]; exact fits_i64 (k := 2) (.inr (.inl rfl)) hf) (by simp only [List.length_cons, List.length_nil, List.length_append, enc_length]; omega)) ?_
      rintro e w8 ⟨A8, c8, rfl, g8, _⟩
      refine ⟨_, rfl, ?_⟩
      exact hK3 (A8, c8, _) _ _ ⟨rfl, rfl, rfl, trivial⟩ ⟨g8, by rw [he]; simp⟩
    | utf t => omega
    | int t => omega
    | long t => omega
    | two t => exact absurd (hkd.trans h7) t.2.2.2
  replace h7 : ¬ kd = 7 := h7
  cases hparts with
  | two _ hf hk he =>
    refine Exists.intro (at_ l i).a (And.intro (cellB hX7 rfl) ?_)
    refine Exists.intro (at_ l i).b (And.intro (cellB hX7 rfl) ?_)
    refine call_ (RPut1 g7 2 false [(at_ l i).a, (at_ l i).b] 2 rfl (good_two Pool.w2 hf hk) (fun q hq => ?_) (by simp only [List.length_cons, List.length_nil, List.length_append, enc_length]; omega)) ?_
    · rcases List.mem_cons.1 hq with rfl | hq
      · exact fits_i64 (k := 2) (.inr (.inl rfl)) hf
      · rw [List.mem_singleton.1 hq]
        exact fits_i64 (k := 2) (.inr (.inl rfl)) hk
    rintro e w8 ⟨A8, c8, rfl, g8, _⟩
    refine ⟨_, rfl, ?_⟩
    exact hK3 (A8, c8, _) _ _ ⟨rfl, rfl, rfl, trivial⟩ ⟨g8, by rw [he]; simp⟩
  | utf t => exact absurd (hkd.symm.trans t) h1
  | int t => exact absurd (hkd.symm.trans t) h3
  | long t => exact absurd (hkd.symm.trans t) h5
  | cls t => exact absurd (hkd.symm.trans t) h7

end Go.Proofs.YtdcaafldnbcdkaaGreatDoor.Class

/-! ### KWrite5 -/
namespace Go.Proofs.YtdcaafldnbcdkaaGreatDoor.Class
open Go Go.Proofs.YtdcaafldnbcdkaaGreatDoor Go.Proofs.YtdcaafldnbcdkaaGreatDoor.Eng Go.Proofs Go.Proofs.YtdcaafldnbcdkaaGreatDoor.Word Go.Proofs.YtdcaafldnbcdkaaGreatDoor.Fmt
open Go.Proofs.YtdcaafldnbcdkaaGreatDoor.Pool (Ent at_ poolF strV entC entV EntOk Pl OkPool both own_low tagAt)
set_option maxRecDepth 10000

theorem andNot_small {a m : Int} (ha : i64 a) (hm : m = 8 ∨ m = 40) (h : bits .andNot .i64 a m = 0) : 0 ≤ a ∧ a ≤ 40 := by
  have h1 : IntKind.i64.wrap ((BitVec.ofInt 64 a &&& ~~~ (BitVec.ofInt 64 m)).toNat : Int) = 0 := h
  rw [IntKind.wrap_i64] at h1
  have hlt := (BitVec.ofInt 64 a &&& ~~~ (BitVec.ofInt 64 m)).isLt
  have h2 : (BitVec.ofInt 64 a &&& ~~~ (BitVec.ofInt 64 m)).toNat = 0 := by omega
  have h3 : BitVec.ofInt 64 a &&& ~~~ (BitVec.ofInt 64 m) = 0#64 := BitVec.eq_of_toNat_eq (by rw [h2]; rfl)
  have h4 : BitVec.ofInt 64 a = BitVec.ofInt 64 a &&& BitVec.ofInt 64 m := by
    ext i hi
    have := congrArg (fun x : BitVec 64 => x[i]) h3
    simp only [BitVec.getElem_and, BitVec.getElem_not, BitVec.getElem_zero] at this ⊢
    revert this
    cases (BitVec.ofInt 64 a)[i] <;> cases (BitVec.ofInt 64 m)[i] <;> simp
  have h5 : (BitVec.ofInt 64 a).toNat ≤ 40 := by
    rw [h4, BitVec.toNat_and]
    refine Nat.le_trans Nat.and_le_right ?_
    rcases hm with rfl | rfl <;> decide
  rw [BitVec.toNat_ofInt] at h5
  unfold i64 at ha
  omega
theorem andNot_all : ∀ n : Fin 41, (bits .andNot .i64 (n.val : Int) 8 = 0 ↔ (n.val = 0 ∨ n.val = 8)) ∧ (bits .andNot .i64 (n.val : Int) 40 = 0 ↔ (n.val = 0 ∨ n.val = 8 ∨ n.val = 32 ∨ n.val = 40)) := by decide
theorem andNot8 {a : Int} (ha : i64 a) : decide (bits .andNot .i64 a 8 = 0) = true ↔ a = 0 ∨ a = 8 := by
  rw [decide_eq_true_eq]
  by_cases hr : 0 ≤ a ∧ a ≤ 40
  · have := (andNot_all ⟨a.toNat, by omega⟩).1
    simp only [Int.toNat_of_nonneg hr.1] at this
    rw [this]
    omega
  · exact ⟨fun h => absurd (andNot_small ha (.inl rfl) h) hr, fun h => by omega⟩
theorem andNot40 {a : Int} (ha : i64 a) : decide (bits .andNot .i64 a 40 = 0) = true ↔ a = 0 ∨ a = 8 ∨ a = 32 ∨ a = 40 := by
  rw [decide_eq_true_eq]
  by_cases hr : 0 ≤ a ∧ a ≤ 40
  · have := (andNot_all ⟨a.toNat, by omega⟩).2
    simp only [Int.toNat_of_nonneg hr.1] at this
    rw [this]
    omega
  · exact ⟨fun h => absurd (andNot_small ha (.inr rfl) h) hr, fun h => by omega⟩
theorem fld1_ok (p : Po) (base : Nat) (h g : Nat) (v : Value) (t : WT) (cs : List Value) (x : Fld) (X : Nat) (w : World) (c : Wi w base p h g v t) (hX : w.heap[X]? = some (.cells #[.pointer (some ⟨h, 0, none⟩)] 104 (0, 0))) (hXn : ¬ WH h g v X) (hx : fldR w (WH h g v) cs x) (hf : i64 x.acc) (hm : t.1.length + cFld x ≤ 1000000000) :
    Calls Tryz.prog 53 #[.agg cs.toArray, .pointer (some ⟨X, 0, none⟩)] w fun e w' => e = .returned (.tuple #[]) ∧ ∃ v' t', Ki w base p h g v w' v' t' ∧ Wri (fldT p.l) (cFld x) t x t' := by
  obtain rfl := hx
  unfold cFld at hm
  refine enter ok Tryz.func53 rfl rfl rfl ?_
  obtain ⟨M, hM⟩ : ∃ M, M = w.heap.size := ⟨_, rfl⟩
  refine seq_cut (σ := Unit) (fun _ => [(1, .pointer (some ⟨X, 0, none⟩)), (2, .pointer (some ⟨M, 0, none⟩))]) (fun _ w' => New w w' ∧ w'.heap[M]? = some (.cells #[zi x.acc, strV x.name, strV x.typ] 49 (0, 0))) ?_ ?_
  rotate_left
  · intro K hK
    rw [hM] at hK
    exact hK () _ _ ⟨rfl, rfl, trivial⟩ ⟨New.alloc w _, heap_alloc_new w (.cells #[zi x.acc, strV x.name, strV x.typ] 49)⟩
  rintro _ w0 fr0 ⟨n0, hM0⟩
  have c0 := c.new n0
  have hX0 := n0.blk hX
  have hMn : ¬ WH h g v M := c.hi (by omega)
  refine seq_cut (σ := Bool) (fun _ => [(1, .pointer (some ⟨X, 0, none⟩)), (2, .pointer (some ⟨M, 0, none⟩))]) (fun b w' => Ki w0 base p h g v w' v (t.1, t.2 || !b) ∧ (b = true ↔ x.acc = 0 ∨ x.acc = 8)) ?_ ?_
  rotate_left
  · intro K hK
    refine Exists.intro (some ⟨h, 0, none⟩) (And.intro (cell0 hX0) ?_)
    refine Exists.intro x.acc (And.intro (cellB hM0 rfl) ?_)
    refine call_ (must_ok base p h g v t (decide (bits .andNot .i64 x.acc 8 = 0)) w0 c0) ?_
    rintro e w1 ⟨rfl, k1⟩
    refine ⟨_, rfl, ?_⟩
    exact hK _ _ _ ⟨rfl, rfl, trivial⟩ ⟨k1, andNot8 hf⟩
  rintro b w1 fr1 ⟨k1, hb⟩
  have c1 := k1.wi
  have hX1 := k1.blk hX0 hXn
  have hM1 := k1.blk hM0 hMn
  have k01 := ((Ki.refl c).new n0).then k1
  have kk1 := Ki.refl c1
  refine seq_cut (σ := Value × WT) (fun _ => [(1, .pointer (some ⟨X, 0, none⟩)), (2, .pointer (some ⟨M, 0, none⟩))]) (fun s w' => Ki w1 base p h g v w' s.1 s.2 ∧ Wri (n2) (2) (t.1, t.2 || !b) x.acc s.2) ?_ ?_
  rotate_left
  · intro K hK
    have hX1 := kk1.blk hX1 hXn
    have hM1 := kk1.blk hM1 hMn
    refine Exists.intro (some ⟨h, 0, none⟩) (And.intro (cell0 hX1) ?_)
    refine Exists.intro x.acc (And.intro (cellB hM1 rfl) ?_)
    refine call_ (two1_ok base p h g v (t.1, t.2 || !b) [x.acc] 1 w1 kk1.wi rfl (by simp; omega)) ?_
    rintro e w2 ⟨rfl, v2, k2⟩
    refine ⟨_, rfl, ?_⟩
    exact hK (v2, _) _ _ ⟨rfl, rfl, trivial⟩ ⟨kk1.then k2, Wri.n2⟩
  rintro ⟨v2, t2⟩ w2 fr2 ⟨kk2, q2⟩
  dsimp only at kk2 q2
  have p2 := q2.1
  try dsimp only at p2
  refine seq_cut (σ := Value × WT) (fun _ => [(1, .pointer (some ⟨X, 0, none⟩)), (2, .pointer (some ⟨M, 0, none⟩))]) (fun s w' => Ki w1 base p h g v w' s.1 s.2 ∧ Wri (utfT p.l) (2) t2 x.name s.2) ?_ ?_
  rotate_left
  · intro K hK
    have hX2 := kk2.blk hX1 hXn
    have hM2 := kk2.blk hM1 hMn
    refine Exists.intro (some ⟨h, 0, none⟩) (And.intro (cell0 hX2) ?_)
    refine Exists.intro (⟨x.name.toArray⟩ : ByteArray) (And.intro (cellB hM2 rfl) ?_)
    refine call_ (wtext_ok p base h g v2 t2 x.name w2 kk2.wi (by omega)) ?_
    rintro e w3 ⟨rfl, v3, t3, k3, wr3⟩
    refine ⟨_, rfl, ?_⟩
    exact hK (v3, t3) _ _ ⟨rfl, rfl, trivial⟩ ⟨kk2.then k3, wr3⟩
  rintro ⟨v3, t3⟩ w3 fr3 ⟨kk3, q3⟩
  dsimp only at kk3 q3
  have p3 := q3.1
  try dsimp only at p3
  refine seq_cut (σ := Value × WT) (fun _ => [(1, .pointer (some ⟨X, 0, none⟩)), (2, .pointer (some ⟨M, 0, none⟩))]) (fun s w' => Ki w1 base p h g v w' s.1 s.2 ∧ Wri (utfT p.l) (2) t3 x.typ s.2) ?_ ?_
  rotate_left
  · intro K hK
    have hX3 := kk3.blk hX1 hXn
    have hM3 := kk3.blk hM1 hMn
    refine Exists.intro (some ⟨h, 0, none⟩) (And.intro (cell0 hX3) ?_)
    refine Exists.intro (⟨x.typ.toArray⟩ : ByteArray) (And.intro (cellB hM3 rfl) ?_)
    refine call_ (wtext_ok p base h g v3 t3 x.typ w3 kk3.wi (by omega)) ?_
    rintro e w4 ⟨rfl, v4, t4, k4, wr4⟩
    refine ⟨_, rfl, ?_⟩
    exact hK (v4, t4) _ _ ⟨rfl, rfl, trivial⟩ ⟨kk3.then k4, wr4⟩
  rintro ⟨v4, t4⟩ w4 fr4 ⟨kk4, q4⟩
  dsimp only at kk4 q4
  have p4 := q4.1
  try dsimp only at p4
  have hX4 := kk4.blk hX1 hXn
  have hM4 := kk4.blk hM1 hMn
  refine Exists.intro (some ⟨h, 0, none⟩) (And.intro (cell0 hX4) ?_)
  refine call_ (two1_ok base p h g v4 t4 [0] 1 w4 kk4.wi rfl (by simp; omega)) ?_
  rintro e w5 ⟨rfl, v5, k5⟩
  refine ⟨_, rfl, ?_⟩
  exact ⟨rfl, v5, _, (k01.then kk4).then k5, Wri.le (Wri.by (q2.seq (q3.seq (q4.seq Wri.n2))) rfl hb) (by unfold cFld; omega)⟩
theorem list_fld (p : Po) (base : Nat) (h g : Nat) (v : Value) (t : WT) (vl : Value) (xs : List Fld) (X : Nat)  (w : World) (c : Wi w base p h g v t) (hO : OkPool p.l) (hl : LRep fldR w (WH h g v) vl xs) (hX : w.heap[X]? = some (.cells #[.pointer (some ⟨h, 0, none⟩)] 104 (0, 0))) (hXn : ¬ WH h g v X) (hf : ∀ x ∈ xs, i64 x.acc)  (hm : t.1.length + (2 + csum cFld xs) ≤ 1000000000) :
    Calls Tryz.prog 52 #[.pointer (some ⟨h, 0, none⟩), vl, zi 256, .func (.func 53) #[] #[.pointer (some ⟨X, 0, none⟩)]] w fun e w' => e = .returned (.tuple #[]) ∧ ∃ v' t', Ki w base p h g v w' v' t' ∧ Wri (fldsT p.l) (2 + csum cFld xs) t xs t' := by
  obtain ⟨Al, cl, rfl, h43, _⟩ := hl.get fldOk (by decide)
  refine enter ok Tryz.func52 rfl rfl rfl ?_
  refine seq_cut (σ := Unit) (fun _ => [(0, .pointer (some ⟨h, 0, none⟩)), (1, .slice Al xs.length cl), (3, .func (.func 53) #[] #[.pointer (some ⟨X, 0, none⟩)])]) (fun _ w' => Ki w base p h g v w' v (t.1, t.2 || !decide (xs.length ≤ 256))) ?_ ?_
  rotate_left
  · intro K hK
    refine call_ (must_ok base p h g v t (decide ((xs.length : Int) ≤ 256)) w c) ?_
    rintro e w1 ⟨rfl, k1⟩
    refine ⟨_, rfl, ?_⟩
    have e1 : decide ((xs.length : Int) ≤ 256) = decide (xs.length ≤ 256) := decide_eq_decide.2 (by omega)
    rw [e1] at k1
    exact hK () _ _ ⟨rfl, rfl, rfl, trivial⟩ k1
  rintro _ w1 fr1 k1
  refine seq_cut (σ := Value × WT) (fun _ => [(0, .pointer (some ⟨h, 0, none⟩)), (1, .slice Al xs.length cl), (3, .func (.func 53) #[] #[.pointer (some ⟨X, 0, none⟩)])]) (fun s w' => Ki w base p h g v w' s.1 s.2 ∧ Wri n2 2 (t.1, t.2 || !decide (xs.length ≤ 256)) (xs.length : Int) s.2) ?_ ?_
  rotate_left
  · intro K hK
    refine Exists.intro (t.2 || !decide (xs.length ≤ 256)) (And.intro (cellB k1.wi.blk rfl) ?_)
    cases hbad : (t.2 || !decide (xs.length ≤ 256)) with
    | true =>
      rw [hbad] at k1 hK
      exact hK (v, (t.1, true)) _ _ ⟨rfl, rfl, rfl, trivial⟩ ⟨k1, Wri.bad rfl _ _⟩
    | false =>
      rw [hbad] at k1 hK
      refine call_ (two1_ok base p h g v (t.1, false) [(xs.length : Int)] 1 w1 k1.wi rfl (by simp; omega)) ?_
      rintro e w2 ⟨rfl, v2, k2⟩
      refine ⟨_, rfl, ?_⟩
      exact hK (v2, _) _ _ ⟨rfl, rfl, rfl, trivial⟩ ⟨k1.then k2, Wri.n2⟩
  rintro ⟨v2, t2⟩ w2 fr2 ⟨k2, wr2⟩
  dsimp only at k2 wr2
  refine seq_cut (σ := Unit) (fun _ => [(0, .pointer (some ⟨h, 0, none⟩)), (3, .func (.func 53) #[] #[.pointer (some ⟨X, 0, none⟩)]), (26, .slice Al xs.length cl), (27, zi (xs.length : Int)), (28, zi 0)]) (fun _ w' => w' = w2) ?_ ?_
  rotate_left
  · intro K hK
    exact hK () _ _ ⟨rfl, rfl, rfl, rfl, rfl, trivial⟩ rfl
  rintro _ wy fry hwy
  obtain rfl := hwy.symm
  refine den_loop (σ := Nat × Value × WT) (fun s => [(0, .pointer (some ⟨h, 0, none⟩)), (3, .func (.func 53) #[] #[.pointer (some ⟨X, 0, none⟩)]), (26, .slice Al xs.length cl), (27, zi (xs.length : Int)), (28, zi (s.1 : Int))])
    (fun m s wl => m + s.1 = xs.length ∧ Ki w base p h g v wl s.2.1 s.2.2 ∧ WLst (fldT p.l) 256 cFld t xs s.1 s.2.2) xs.length (0, v2, t2) ⟨rfl, rfl, rfl, rfl, rfl, trivial⟩ ⟨rfl, k2, WLst.start (by decide) wr2⟩ ?_
  rintro m ⟨i, v3, t3⟩ wl frl ⟨hfuel, kl, hw⟩
  dsimp only at hfuel kl hw
  refine if_p (fun hlt => ?_) (fun hge => ?_)
  · replace hlt : (i : Int) < (xs.length : Int) := hlt
    have hi : i < xs.length := by omega
    obtain ⟨m, rfl⟩ : ∃ m', m = m' + 1 := ⟨m - 1, by omega⟩
    have inc := incN hi h43
    obtain ⟨Al', cl', he, _, gx⟩ := (kl.lrep fldOk (by decide) hl).get fldOk (by decide)
    cases he
    obtain ⟨a, cs, ea, hx, hc⟩ := gx i hi
    have hcs : csum cFld (xs.take i) + cFld xs[i] ≤ csum cFld xs := by
      have h1 := csum_le cFld xs (i + 1)
      rw [List.take_succ_eq_append_getElem hi, csum_snoc] at h1
      exact h1
    have hw1 := hw.1
    have hmem : xs[i] ∈ xs := List.getElem_mem hi
    obtain ⟨y, hy⟩ : ∃ y, y = xs[i] := ⟨_, rfl⟩
    rw [← hy] at hx hcs hmem
    have hx0 := hx
    obtain rfl := hx
    refine And.intro (by omega) (And.intro hlt ?_)
    refine some_at ea ?_
    refine loadN_row (vs := [zi y.acc, strV y.name, strV y.typ]) (fun j u hu => by rw [Int.toNat_natCast]; exact hc j u hu) rfl ?_
    refine And.intro rfl ?_
    refine storeNew (vs := [zi y.acc, strV y.name, strV y.typ]) (arr := #[zi 0, .string ⟨#[]⟩, .string ⟨#[]⟩]) rfl (fldOk.one hx0) ?_
    intro w5 hb5 n5 s5
    have k5 := kl.new n5
    refine Exists.intro t3.2 (And.intro (cellB k5.wi.blk rfl) ?_)
    refine if_ (fun hbad => ?_) (fun hbad => ?_)
    · exact ⟨rfl, v3, t3, k5, hw.stop hbad⟩
    refine skip_ (thenF_ ?_)
    refine loadN_row (vs := [zi y.acc, strV y.name, strV y.typ]) (rowB hb5) rfl ?_
    refine call_ (fld1_ok p base h g v3 t3 _ y X w5 k5.wi (n5.blk (kl.blk hX hXn)) (kl.hid (Array.getElem?_eq_some_iff.1 hX).1 hXn) (fldOk.mod hx0 n5.mod) (hf y hmem) (by omega)) ?_
    rintro e w6 ⟨rfl, v6, t6, k6, wr6⟩
    refine ⟨_, rfl, ?_⟩
    exact ⟨m, (i + 1, v6, t6), by omega, ⟨rfl, rfl, rfl, rfl, inc, trivial⟩, by dsimp only; omega, k5.then k6, hw.step hi (by rw [← hy]; exact wr6)⟩
  · replace hge : ¬ (i : Int) < (xs.length : Int) := hge
    obtain rfl : i = xs.length := by omega
    exact ⟨rfl, v3, t3, kl, hw.done⟩

theorem mth1_ok (p : Po) (base : Nat) (h g : Nat) (v : Value) (t : WT) (cs : List Value) (x : Mth) (X : Nat) (w : World) (c : Wi w base p h g v t) (hO : OkPool p.l) (hX : w.heap[X]? = some (.cells #[.pointer (some ⟨h, 0, none⟩)] 104 (0, 0))) (hXn : ¬ WH h g v X) (hx : mthR w (WH h g v) cs x) (hf : i64 x.acc) (hm : t.1.length + cMth x ≤ 1000000000) :
    Calls Tryz.prog 57 #[.agg cs.toArray, .pointer (some ⟨X, 0, none⟩)] w fun e w' => e = .returned (.tuple #[]) ∧ ∃ v' t', Ki w base p h g v w' v' t' ∧ Wri (mthT p.l) (cMth x) t x t' := by
  have hcost : cMth x = 14 + cCod x.code := rfl
  obtain ⟨_, _, _, rfl, hb0, hh0, hm0⟩ := hx
  obtain ⟨Ab, cb, rfl, hnb, _⟩ := hb0.get u8Ok (by decide)
  obtain ⟨Ah, ch, rfl, hnh, _⟩ := hh0.get hndOk (by decide)
  obtain ⟨Am, cm, rfl, hnm, _⟩ := hm0.get mpOk (by decide)
  have hc0 : codR w (WH h g v) [zi x.code.stack, zi x.code.locals, .slice Ab x.code.bytes.length cb, .slice Ah x.code.hands.length ch, .slice Am x.code.maps.length cm] x.code := ⟨_, _, _, rfl, hb0, hh0, hm0⟩
  refine enter ok Tryz.func57 rfl rfl rfl ?_
  obtain ⟨M, hM⟩ : ∃ M, M = w.heap.size := ⟨_, rfl⟩
  refine seq_cut (σ := Unit) (fun _ => [(1, .pointer (some ⟨X, 0, none⟩)), (2, .pointer (some ⟨M, 0, none⟩))]) (fun _ w' => New w w' ∧ w'.heap[M]? = some (.cells #[zi x.acc, strV x.name, strV x.typ, zi x.code.stack, zi x.code.locals, .slice Ab x.code.bytes.length cb, .slice Ah x.code.hands.length ch, .slice Am x.code.maps.length cm] 58 (0, 0))) ?_ ?_
  rotate_left
  · intro K hK
    rw [hM] at hK
    exact hK () _ _ ⟨rfl, rfl, trivial⟩ ⟨New.alloc w _, heap_alloc_new w (.cells #[zi x.acc, strV x.name, strV x.typ, zi x.code.stack, zi x.code.locals, .slice Ab x.code.bytes.length cb, .slice Ah x.code.hands.length ch, .slice Am x.code.maps.length cm] 58)⟩
  rintro _ w0 fr0 ⟨n0, hM0⟩
  have c0 := c.new n0
  have hX0 := n0.blk hX
  have hMn : ¬ WH h g v M := c.hi (by omega)
  refine seq_cut (σ := Bool) (fun _ => [(1, .pointer (some ⟨X, 0, none⟩)), (2, .pointer (some ⟨M, 0, none⟩))]) (fun b w' => Ki w0 base p h g v w' v (t.1, t.2 || !b) ∧ (b = true ↔ x.acc = 0 ∨ x.acc = 8 ∨ x.acc = 32 ∨ x.acc = 40)) ?_ ?_
  rotate_left
  · intro K hK
    refine Exists.intro (some ⟨h, 0, none⟩) (And.intro (cell0 hX0) ?_)
    refine Exists.intro x.acc (And.intro (cellB hM0 rfl) ?_)
    refine call_ (must_ok base p h g v t (decide (bits .andNot .i64 x.acc 40 = 0)) w0 c0) ?_
    rintro e w1 ⟨rfl, k1⟩
    refine ⟨_, rfl, ?_⟩
    exact hK _ _ _ ⟨rfl, rfl, trivial⟩ ⟨k1, andNot40 hf⟩
  rintro b w1 fr1 ⟨k1, hb⟩
  have c1 := k1.wi
  have hX1 := k1.blk hX0 hXn
  have hM1 := k1.blk hM0 hMn
  have k01 := ((Ki.refl c).new n0).then k1
  have hc1 := k01.rep codOk hc0
  have rowM : ∀ {w' : World}, w'.heap[M]? = some (.cells #[zi x.acc, strV x.name, strV x.typ, zi x.code.stack, zi x.code.locals, .slice Ab x.code.bytes.length cb, .slice Ah x.code.hands.length ch, .slice Am x.code.maps.length cm] 58 (0, 0)) → ∀ (j : Nat) (u : Value), [zi x.code.stack, zi x.code.locals, .slice Ab x.code.bytes.length cb, .slice Ah x.code.hands.length ch, .slice Am x.code.maps.length cm][j]? = some u → w'.cell? (((⟨M, 0, none⟩ : Addr).add 3).add j) = some u := fun hM j u hu => by
    rw [add_add_]
    refine cellB hM ?_
    rw [← hu, ← Array.getElem?_toList]
    show ([zi x.acc, strV x.name, strV x.typ] ++ [zi x.code.stack, zi x.code.locals, .slice Ab x.code.bytes.length cb, .slice Ah x.code.hands.length ch, .slice Am x.code.maps.length cm])[3 + j]? = _
    rw [List.getElem?_append_right (show 3 ≤ 3 + j by omega)]
    show [zi x.code.stack, zi x.code.locals, .slice Ab x.code.bytes.length cb, .slice Ah x.code.hands.length ch, .slice Am x.code.maps.length cm][3 + j - 3]? = _
    rw [Nat.add_sub_cancel_left]
  have kk1 := Ki.refl c1
  refine seq_cut (σ := Value × WT) (fun _ => [(1, .pointer (some ⟨X, 0, none⟩)), (2, .pointer (some ⟨M, 0, none⟩))]) (fun s w' => Ki w1 base p h g v w' s.1 s.2 ∧ Wri (n2) (2) (t.1, t.2 || !b) x.acc s.2) ?_ ?_
  rotate_left
  · intro K hK
    have hX1 := kk1.blk hX1 hXn
    have hM1 := kk1.blk hM1 hMn
    refine Exists.intro (some ⟨h, 0, none⟩) (And.intro (cell0 hX1) ?_)
    refine Exists.intro x.acc (And.intro (cellB hM1 rfl) ?_)
    refine call_ (two1_ok base p h g v (t.1, t.2 || !b) [x.acc] 1 w1 kk1.wi rfl (by simp; omega)) ?_
    rintro e w2 ⟨rfl, v2, k2⟩
    refine ⟨_, rfl, ?_⟩
    exact hK (v2, _) _ _ ⟨rfl, rfl, trivial⟩ ⟨kk1.then k2, Wri.n2⟩
  rintro ⟨v2, t2⟩ w2 fr2 ⟨kk2, q2⟩
  dsimp only at kk2 q2
  have p2 := q2.1
  try dsimp only at p2
  refine seq_cut (σ := Value × WT) (fun _ => [(1, .pointer (some ⟨X, 0, none⟩)), (2, .pointer (some ⟨M, 0, none⟩))]) (fun s w' => Ki w1 base p h g v w' s.1 s.2 ∧ Wri (utfT p.l) (2) t2 x.name s.2) ?_ ?_
  rotate_left
  · intro K hK
    have hX2 := kk2.blk hX1 hXn
    have hM2 := kk2.blk hM1 hMn
    refine Exists.intro (some ⟨h, 0, none⟩) (And.intro (cell0 hX2) ?_)
    refine Exists.intro (⟨x.name.toArray⟩ : ByteArray) (And.intro (cellB hM2 rfl) ?_)
    refine call_ (wtext_ok p base h g v2 t2 x.name w2 kk2.wi (by omega)) ?_
    rintro e w3 ⟨rfl, v3, t3, k3, wr3⟩
    refine ⟨_, rfl, ?_⟩
    exact hK (v3, t3) _ _ ⟨rfl, rfl, trivial⟩ ⟨kk2.then k3, wr3⟩
  rintro ⟨v3, t3⟩ w3 fr3 ⟨kk3, q3⟩
  dsimp only at kk3 q3
  have p3 := q3.1
  try dsimp only at p3
  refine seq_cut (σ := Value × WT) (fun _ => [(1, .pointer (some ⟨X, 0, none⟩)), (2, .pointer (some ⟨M, 0, none⟩))]) (fun s w' => Ki w1 base p h g v w' s.1 s.2 ∧ Wri (utfT p.l) (2) t3 x.typ s.2) ?_ ?_
  rotate_left
  · intro K hK
    have hX3 := kk3.blk hX1 hXn
    have hM3 := kk3.blk hM1 hMn
    refine Exists.intro (some ⟨h, 0, none⟩) (And.intro (cell0 hX3) ?_)
    refine Exists.intro (⟨x.typ.toArray⟩ : ByteArray) (And.intro (cellB hM3 rfl) ?_)
    refine call_ (wtext_ok p base h g v3 t3 x.typ w3 kk3.wi (by omega)) ?_
    rintro e w4 ⟨rfl, v4, t4, k4, wr4⟩
    refine ⟨_, rfl, ?_⟩
    exact hK (v4, t4) _ _ ⟨rfl, rfl, trivial⟩ ⟨kk3.then k4, wr4⟩
  rintro ⟨v4, t4⟩ w4 fr4 ⟨kk4, q4⟩
  dsimp only at kk4 q4
  have p4 := q4.1
  try dsimp only at p4
  refine seq_cut (σ := Value × WT) (fun _ => [(1, .pointer (some ⟨X, 0, none⟩)), (2, .pointer (some ⟨M, 0, none⟩))]) (fun s w' => Ki w1 base p h g v w' s.1 s.2 ∧ Wri (n2) (2) t4 1 s.2) ?_ ?_
  rotate_left
  · intro K hK
    have hX4 := kk4.blk hX1 hXn
    have hM4 := kk4.blk hM1 hMn
    refine Exists.intro (some ⟨h, 0, none⟩) (And.intro (cell0 hX4) ?_)
    refine call_ (two1_ok base p h g v4 t4 [1] 1 w4 kk4.wi rfl (by simp; omega)) ?_
    rintro e w5 ⟨rfl, v5, k5⟩
    refine ⟨_, rfl, ?_⟩
    exact hK (v5, _) _ _ ⟨rfl, rfl, trivial⟩ ⟨kk4.then k5, Wri.n2⟩
  rintro ⟨v5, t5⟩ w5 fr5 ⟨kk5, q5⟩
  dsimp only at kk5 q5
  have p5 := q5.1
  try dsimp only at p5
  refine seq_cut (σ := Value × WT) (fun _ => [(1, .pointer (some ⟨X, 0, none⟩)), (2, .pointer (some ⟨M, 0, none⟩))]) (fun s w' => Ki w1 base p h g v w' s.1 s.2 ∧ Wri (utfT p.l) (2) t5 codeS s.2) ?_ ?_
  rotate_left
  · intro K hK
    have hX5 := kk5.blk hX1 hXn
    have hM5 := kk5.blk hM1 hMn
    refine Exists.intro (some ⟨h, 0, none⟩) (And.intro (cell0 hX5) ?_)
    refine call_ (wtext_ok p base h g v5 t5 codeS w5 kk5.wi (by omega)) ?_
    rintro e w6 ⟨rfl, v6, t6, k6, wr6⟩
    refine ⟨_, rfl, ?_⟩
    exact hK (v6, t6) _ _ ⟨rfl, rfl, trivial⟩ ⟨kk5.then k6, wr6⟩
  rintro ⟨v6, t6⟩ w6 fr6 ⟨kk6, q6⟩
  dsimp only at kk6 q6
  have p6 := q6.1
  try dsimp only at p6
  have hX6 := kk6.blk hX1 hXn
  have hM6 := kk6.blk hM1 hMn
  refine seq_cut (σ := Nat × Nat) (fun s => [(1, .pointer (some ⟨X, 0, none⟩)), (2, .pointer (some ⟨M, 0, none⟩)), (3, .pointer (some ⟨s.1, 0, none⟩))]) (fun s w' => New w6 w' ∧ Wi w' base p s.1 s.2 (.slice none 0 0) ([], false) ∧ w6.heap.size ≤ s.1 ∧ w6.heap.size ≤ s.2) ?_ ?_
  rotate_left
  · intro K hK
    refine Exists.intro (some ⟨h, 0, none⟩) (And.intro (cell0 hX6) ?_)
    refine call_ (part_ok base p h g v6 t6 w6 kk6.wi) ?_
    rintro e wp ⟨h', hne', rfl, cp, hle, np⟩
    refine ⟨_, rfl, ?_⟩
    exact hK (h', w6.heap.size) _ _ ⟨rfl, rfl, rfl, trivial⟩ ⟨np, cp, hle, Nat.le_refl _⟩
  rintro ⟨h', g'⟩ wp frp ⟨np, cp, hh', hg'⟩
  dsimp only at cp hh' hg'
  have kp := kk6.new np
  have hXp := np.blk hX6
  have hMp := np.blk hM6
  have own' : ∀ b, WH h' g' (.slice none 0 0) b → w6.heap.size ≤ b := fun b e => by
    rcases e with (e | e) | e
    · omega
    · cases e
    · omega
  refine seq_cut (σ := Value × WT) (fun s => [(1, .pointer (some ⟨X, 0, none⟩)), (2, .pointer (some ⟨M, 0, none⟩)), (3, .pointer (some ⟨h', 0, none⟩))]) (fun s w' => Ki wp base p h' g' (.slice none 0 0) w' s.1 s.2 ∧ Wri (codT p.l) (cCod x.code) ([], false) x.code s.2) ?_ ?_
  rotate_left
  · intro K hK
    refine loadN_row (vs := [zi x.code.stack, zi x.code.locals, .slice Ab x.code.bytes.length cb, .slice Ah x.code.hands.length ch, .slice Am x.code.maps.length cm]) (fun j u hu => rowM hMp j u hu) rfl ?_
    refine call_ (code_ok p base h' g' (.slice none 0 0) ([], false) _ x.code wp cp hO (rep_up codOk (kk6.rep codOk hc1) np own') (by simp; omega)) ?_
    rintro e wq ⟨rfl, vq, tq, kq, wrq⟩
    refine ⟨_, rfl, ?_⟩
    exact hK (vq, tq) _ _ ⟨rfl, rfl, rfl, trivial⟩ ⟨kq, wrq⟩
  rintro ⟨vq, tq⟩ wq frq ⟨kq, wrq⟩
  dsimp only at kq wrq
  have hlq := wrq.1
  simp only [List.length_nil] at hlq
  have ownq : ∀ b, WH h' g' vq b → w6.heap.size ≤ b := fun b e => by
    rcases e with (e | e) | e
    · omega
    · rcases kq.st b e.symm with e1 | e1
      · cases e1
      · exact Nat.le_trans np.size e1
    · omega
  have hbw6 := kk6.wi.bw
  have cw : Wi wq base p h g v6 t6 := kp.wi.other kq.mod fun b _ e => ⟨Nat.le_trans hbw6 (own' b e), kk6.wi.hi (own' b e)⟩
  have hXq := kq.blk hXp fun e => by
    have h1 := own' X e
    have h2 := (Array.getElem?_eq_some_iff.1 hX6).1
    omega
  refine Exists.intro (some ⟨h, 0, none⟩) (And.intro (cell0 hXq) ?_)
  refine call_ (add_ok p base h g v6 t6 h' g' vq tq wq cw kq.wi (fun b e => kk6.wi.hi (ownq b e)) (by omega)) ?_
  rintro e wr ⟨rfl, vr, kr⟩
  refine ⟨_, rfl, ?_⟩
  have hsz6 := kk6.mod.size
  have kall := kp.also kq.mod (fun b e => Nat.le_trans hsz6 (own' b e)) kr
  have qr := Wri.part (t := t6) wrq
  exact ⟨rfl, vr, _, k01.then kall, Wri.le (Wri.by (q2.seq (q3.seq (q4.seq (q5.seq (q6.seq qr))))) rfl hb) (by rw [hcost]; omega)⟩
theorem list_mth (p : Po) (base : Nat) (h g : Nat) (v : Value) (t : WT) (vl : Value) (xs : List Mth) (X : Nat)  (w : World) (c : Wi w base p h g v t) (hO : OkPool p.l) (hl : LRep mthR w (WH h g v) vl xs) (hX : w.heap[X]? = some (.cells #[.pointer (some ⟨h, 0, none⟩)] 104 (0, 0))) (hXn : ¬ WH h g v X) (hf : ∀ x ∈ xs, i64 x.acc)  (hm : t.1.length + (2 + csum cMth xs) ≤ 1000000000) :
    Calls Tryz.prog 56 #[.pointer (some ⟨h, 0, none⟩), vl, zi 256, .func (.func 57) #[] #[.pointer (some ⟨X, 0, none⟩)]] w fun e w' => e = .returned (.tuple #[]) ∧ ∃ v' t', Ki w base p h g v w' v' t' ∧ Wri (mthsT p.l) (2 + csum cMth xs) t xs t' := by
  obtain ⟨Al, cl, rfl, h43, _⟩ := hl.get mthOk (by decide)
  refine enter ok Tryz.func56 rfl rfl rfl ?_
  refine seq_cut (σ := Unit) (fun _ => [(0, .pointer (some ⟨h, 0, none⟩)), (1, .slice Al xs.length cl), (3, .func (.func 57) #[] #[.pointer (some ⟨X, 0, none⟩)])]) (fun _ w' => Ki w base p h g v w' v (t.1, t.2 || !decide (xs.length ≤ 256))) ?_ ?_
  rotate_left
  · intro K hK
    refine call_ (must_ok base p h g v t (decide ((xs.length : Int) ≤ 256)) w c) ?_
    rintro e w1 ⟨rfl, k1⟩
    refine ⟨_, rfl, ?_⟩
    have e1 : decide ((xs.length : Int) ≤ 256) = decide (xs.length ≤ 256) := decide_eq_decide.2 (by omega)
    rw [e1] at k1
    exact hK () _ _ ⟨rfl, rfl, rfl, trivial⟩ k1
  rintro _ w1 fr1 k1
  refine seq_cut (σ := Value × WT) (fun _ => [(0, .pointer (some ⟨h, 0, none⟩)), (1, .slice Al xs.length cl), (3, .func (.func 57) #[] #[.pointer (some ⟨X, 0, none⟩)])]) (fun s w' => Ki w base p h g v w' s.1 s.2 ∧ Wri n2 2 (t.1, t.2 || !decide (xs.length ≤ 256)) (xs.length : Int) s.2) ?_ ?_
  rotate_left
  · intro K hK
    refine Exists.intro (t.2 || !decide (xs.length ≤ 256)) (And.intro (cellB k1.wi.blk rfl) ?_)
    cases hbad : (t.2 || !decide (xs.length ≤ 256)) with
    | true =>
      rw [hbad] at k1 hK
      exact hK (v, (t.1, true)) _ _ ⟨rfl, rfl, rfl, trivial⟩ ⟨k1, Wri.bad rfl _ _⟩
    | false =>
      rw [hbad] at k1 hK
      refine call_ (two1_ok base p h g v (t.1, false) [(xs.length : Int)] 1 w1 k1.wi rfl (by simp; omega)) ?_
      rintro e w2 ⟨rfl, v2, k2⟩
      refine ⟨_, rfl, ?_⟩
      exact hK (v2, _) _ _ ⟨rfl, rfl, rfl, trivial⟩ ⟨k1.then k2, Wri.n2⟩
  rintro ⟨v2, t2⟩ w2 fr2 ⟨k2, wr2⟩
  dsimp only at k2 wr2
  refine seq_cut (σ := Unit) (fun _ => [(0, .pointer (some ⟨h, 0, none⟩)), (3, .func (.func 57) #[] #[.pointer (some ⟨X, 0, none⟩)]), (26, .slice Al xs.length cl), (27, zi (xs.length : Int)), (28, zi 0)]) (fun _ w' => w' = w2) ?_ ?_
  rotate_left
  · intro K hK
    exact hK () _ _ ⟨rfl, rfl, rfl, rfl, rfl, trivial⟩ rfl
  rintro _ wy fry hwy
  obtain rfl := hwy.symm
  refine den_loop (σ := Nat × Value × WT) (fun s => [(0, .pointer (some ⟨h, 0, none⟩)), (3, .func (.func 57) #[] #[.pointer (some ⟨X, 0, none⟩)]), (26, .slice Al xs.length cl), (27, zi (xs.length : Int)), (28, zi (s.1 : Int))])
    (fun m s wl => m + s.1 = xs.length ∧ Ki w base p h g v wl s.2.1 s.2.2 ∧ WLst (mthT p.l) 256 cMth t xs s.1 s.2.2) xs.length (0, v2, t2) ⟨rfl, rfl, rfl, rfl, rfl, trivial⟩ ⟨rfl, k2, WLst.start (by decide) wr2⟩ ?_
  rintro m ⟨i, v3, t3⟩ wl frl ⟨hfuel, kl, hw⟩
  dsimp only at hfuel kl hw
  refine if_p (fun hlt => ?_) (fun hge => ?_)
  · replace hlt : (i : Int) < (xs.length : Int) := hlt
    have hi : i < xs.length := by omega
    obtain ⟨m, rfl⟩ : ∃ m', m = m' + 1 := ⟨m - 1, by omega⟩
    have inc := incN hi h43
    obtain ⟨Al', cl', he, _, gx⟩ := (kl.lrep mthOk (by decide) hl).get mthOk (by decide)
    cases he
    obtain ⟨a, cs, ea, hx, hc⟩ := gx i hi
    have hcs : csum cMth (xs.take i) + cMth xs[i] ≤ csum cMth xs := by
      have h1 := csum_le cMth xs (i + 1)
      rw [List.take_succ_eq_append_getElem hi, csum_snoc] at h1
      exact h1
    have hw1 := hw.1
    have hmem : xs[i] ∈ xs := List.getElem_mem hi
    obtain ⟨y, hy⟩ : ∃ y, y = xs[i] := ⟨_, rfl⟩
    rw [← hy] at hx hcs hmem
    have hx0 := hx
    obtain ⟨_, _, _, rfl, hy1, hy2, hy3⟩ := hx
    obtain ⟨Ab, cb, rfl, _⟩ := hy1.get u8Ok (by decide)
    obtain ⟨Ah, ch, rfl, _⟩ := hy2.get hndOk (by decide)
    obtain ⟨Am, cm, rfl, _⟩ := hy3.get mpOk (by decide)
    refine And.intro (by omega) (And.intro hlt ?_)
    refine some_at ea ?_
    refine loadN_row (vs := [zi y.acc, strV y.name, strV y.typ, zi y.code.stack, zi y.code.locals, .slice Ab y.code.bytes.length cb, .slice Ah y.code.hands.length ch, .slice Am y.code.maps.length cm]) (fun j u hu => by rw [Int.toNat_natCast]; exact hc j u hu) rfl ?_
    refine And.intro rfl ?_
    refine storeNew (vs := [zi y.acc, strV y.name, strV y.typ, zi y.code.stack, zi y.code.locals, .slice Ab y.code.bytes.length cb, .slice Ah y.code.hands.length ch, .slice Am y.code.maps.length cm]) (arr := #[zi 0, .string ⟨#[]⟩, .string ⟨#[]⟩, zi 0, zi 0, .slice none 0 0, .slice none 0 0, .slice none 0 0]) rfl (mthOk.one hx0) ?_
    intro w5 hb5 n5 s5
    have k5 := kl.new n5
    refine Exists.intro t3.2 (And.intro (cellB k5.wi.blk rfl) ?_)
    refine if_ (fun hbad => ?_) (fun hbad => ?_)
    · exact ⟨rfl, v3, t3, k5, hw.stop hbad⟩
    refine skip_ (thenF_ ?_)
    refine loadN_row (vs := [zi y.acc, strV y.name, strV y.typ, zi y.code.stack, zi y.code.locals, .slice Ab y.code.bytes.length cb, .slice Ah y.code.hands.length ch, .slice Am y.code.maps.length cm]) (rowB hb5) rfl ?_
    refine call_ (mth1_ok p base h g v3 t3 _ y X w5 k5.wi hO (n5.blk (kl.blk hX hXn)) (kl.hid (Array.getElem?_eq_some_iff.1 hX).1 hXn) (mthOk.mod hx0 n5.mod) (hf y hmem) (by omega)) ?_
    rintro e w6 ⟨rfl, v6, t6, k6, wr6⟩
    refine ⟨_, rfl, ?_⟩
    exact ⟨m, (i + 1, v6, t6), by omega, ⟨rfl, rfl, rfl, rfl, inc, trivial⟩, by dsimp only; omega, k5.then k6, hw.step hi (by rw [← hy]; exact wr6)⟩
  · replace hge : ¬ (i : Int) < (xs.length : Int) := hge
    obtain rfl : i = xs.length := by omega
    exact ⟨rfl, v3, t3, kl, hw.done⟩


end Go.Proofs.YtdcaafldnbcdkaaGreatDoor.Class

/-! ### KPrint -/
namespace Go.Proofs.YtdcaafldnbcdkaaGreatDoor.Class
open Go Go.Proofs.YtdcaafldnbcdkaaGreatDoor Go.Proofs.YtdcaafldnbcdkaaGreatDoor.Eng Go.Proofs Go.Proofs.YtdcaafldnbcdkaaGreatDoor.Word Go.Proofs.YtdcaafldnbcdkaaGreatDoor.Fmt
open Go.Proofs.YtdcaafldnbcdkaaGreatDoor.Pool (Ent at_ poolF strV entC entV EntOk Pl OkPool both own_low tagAt)
set_option maxRecDepth 10000

theorem enc_len {l : List Ent} (ho : Pool.okB l = true) (hn : ∀ x ∈ l, EntOk x) : (poolF.enc l).length ≤ 100000000 := by
  have hO := (Pool.okB_iff l).1 ho
  have h1 := Pool.ents_take_len hO hn l.length (Nat.le_refl _)
  rw [List.take_length] at h1
  have h2 := hO.2
  show (enc 2 (l.length : Int) ++ Pool.ents (l.drop 1)).length ≤ _
  rw [Pool.ents_all hO.1, List.length_append, enc_length]
  omega
def fCls (c : Cls) : Prop := (∀ x ∈ c.pool, EntOk x) ∧ (∀ f ∈ c.fields, i64 f.acc) ∧ ∀ m ∈ c.methods, i64 m.acc
def cCls (c : Cls) : Nat := csum cFld c.fields + csum cMth c.methods
def PrRes (w : World) (c : Cls) (e : Ending) (w' : World) : Prop := ∃ A q, e = .returned (.tuple #[.slice A (bytesOf c).length q, zi (errOf c)]) ∧ Row w' A (bvs (bytesOf c)) ∧ (bytesOf c).length ≤ q ∧ q ≤ 9223372036854775807 ∧ New w w'
theorem pr_bad {w w' : World} {c : Cls} {er : Int} (h : errOf c = er ∧ bytesOf c = []) (n : New w w') : PrRes w c (.returned (.tuple #[.slice none 0 0, .int .i64 er])) w' :=
  ⟨none, 0, by rw [h.1, h.2]; rfl, by rw [h.2]; exact Row.nil _ _, by rw [h.2]; exact Nat.le_refl _, by omega, n⟩
theorem wri_file {d : Nat} {c : Cls} {t : WT} (h : Wri fileT d ([], false) c t) : (t.2 = true → errOf c = 80 ∧ bytesOf c = []) ∧ (t.2 = false → 32768 < t.1.length → errOf c = 3 ∧ bytesOf c = []) ∧ (t.2 = false → t.1.length ≤ 32768 → errOf c = 0 ∧ bytesOf c = t.1) := by
  obtain ⟨_, h⟩ := h
  unfold errOf bytesOf
  rcases h with ⟨a, b⟩ | ⟨a, _, o, e⟩
  · have hb : ¬ fileT.ok c := by
      rcases b with b | b
      · cases b
      · exact b
    refine ⟨fun _ => ⟨if_neg hb, if_neg fun h => hb h.1⟩, fun h => ?_, fun h => ?_⟩
    · rw [h] at a; cases a
    · rw [h] at a; cases a
  · rw [List.nil_append] at e
    rw [← e, if_pos o]
    refine ⟨fun h => ?_, fun _ h => ⟨if_neg (by omega), if_neg (by omega)⟩, fun _ h => ⟨if_pos h, if_pos ⟨o, h⟩⟩⟩
    rw [h] at a; cases a
theorem not_pool {c : Cls} (h : Pool.okB c.pool = false) : errOf c = 80 ∧ bytesOf c = [] := by
  have hn : ¬ fileT.ok c := fun o => by
    have h1 : Pool.okB c.pool = true := o.2.2.2.2.1.1
    rw [h] at h1
    cases h1
  unfold errOf bytesOf
  exact ⟨if_neg hn, if_neg fun h => hn h.1⟩
theorem Wri.pool {t : WT} {l : List Ent} (h : poolF.ok l) : Wri (tF poolF) (poolF.enc l).length t l (t.1 ++ poolF.enc l, t.2) := by
  refine ⟨by simp, ?_⟩
  cases ht : t.2 with
  | true => exact .inl ⟨rfl, .inl rfl⟩
  | false => exact .inr ⟨rfl, rfl, h, rfl⟩
theorem Wri.sup0 {l : List Ent} {t t1 : WT} {s : List UInt8} (h : Wri Class.n2 2 t 0 t1) (hs : s = []) : Wri (supT l) 2 t s t1 := by
  refine ⟨h.1, ?_⟩
  rcases h.2 with ⟨a, b⟩ | ⟨a, b, o, e⟩
  · exact .inl ⟨a, b.imp id fun b _ => b (n2_ok (by decide) (by decide))⟩
  · refine .inr ⟨a, b, .inl hs, ?_⟩
    rw [e]
    show _ = t.1 ++ (if s = [] then enc 2 0 else _)
    rw [if_pos hs]
    rfl
theorem Wri.sup1 {l : List Ent} {t t1 : WT} {s : List UInt8} (h : Wri (clsT l) 2 t s t1) (hs : s ≠ []) : Wri (supT l) 2 t s t1 := by
  refine ⟨h.1, ?_⟩
  rcases h.2 with ⟨a, b⟩ | ⟨a, b, o, e⟩
  · exact .inl ⟨a, b.imp id fun b o => b (o.resolve_left hs)⟩
  · refine .inr ⟨a, b, .inr o, ?_⟩
    rw [e]
    show _ = t.1 ++ (if s = [] then enc 2 0 else _)
    rw [if_neg hs]
theorem goodMagic : good ((4 : Nat) : Int) false [3405691582] = true := by decide
theorem start {w1 w4 w5 : World} {p : Po} {h g X : Nat} (cx : Cx w1 w1.heap.size p) (hg : w1.heap.size ≤ g) (hh : w1.heap.size ≤ h) (hx : w1.heap.size ≤ X) (ne : h ≠ g) (nh : X ≠ h) (ng : X ≠ g) (n : New w1 w4)
    (hb : w4.heap[g]? = some (.cells #[.slice none 0 0, .int .i64 0, .bool true] 146 (0, 0))) (hh4 : w4.heap[h]? = some (.cells #[.pointer (some ⟨g, 0, none⟩), p.v, .bool false] 108 (0, 0))) (m5 : Mod (fun b => b = X) w4 w5) : Wi w5 w1.heap.size p h g (.slice none 0 0) ([], false) ∧ New w1 w5 := by
  have n5 : New w1 w5 := n.st m5 hx
  exact ⟨⟨m5.blk hh4 (fun e => nh e.symm), ⟨m5.blk hb (fun e => ng e.symm), ⟨rfl, .inl ⟨rfl, rfl⟩⟩, (fun e => (by cases e))⟩, ne, (fun e => (by cases e)), hh, hg, cx.new n5⟩, n5⟩
theorem Print_ok (cs0 : List Value) (c : Cls) (S : Nat → Prop) (w : World) (hx : clsR w S cs0 c) (hf : fCls c) (hk : Kt w) (hG : 0 < w.heap.size) (hm : cCls c ≤ 500000000) :
    Calls Tryz.prog 21 #[.agg cs0.toArray] w (PrRes w c) := by
  replace hx := clsOk.weak (S' := fun b => w.heap.size + 1 ≤ b) hx fun b hb e => by omega
  obtain ⟨_, _, _, rfl, lp, lf, lm⟩ := hx
  obtain ⟨hfp, hff, hfm⟩ := hf
  have hcost : cCls c = csum cFld c.fields + csum cMth c.methods := rfl
  obtain ⟨A, q, rfl, pl, hq1, hq2, plow⟩ := pool_row lp hfp
  obtain ⟨_, _, _, hpn, _⟩ := lp.get entOk (by decide)
  have lf0 := lf
  obtain ⟨Af, cf, rfl, hnf, _⟩ := lf.get fldOk (by decide)
  have lm0 := lm
  obtain ⟨Am, cm, rfl, hnm, _⟩ := lm.get mthOk (by decide)
  refine enter ok Tryz.func21 rfl rfl rfl ?_
  obtain ⟨M, hMe⟩ : ∃ M, M = w.heap.size := ⟨_, rfl⟩
  refine seq_cut (σ := Unit) (fun _ => [(1, .pointer (some ⟨M, 0, none⟩))]) (fun _ w' => New w w' ∧ w'.heap.size = w.heap.size + 1 ∧ w'.heap[M]? = some (.cells #[.slice A c.pool.length q, strV c.name, strV c.super, .slice Af c.fields.length cf, .slice Am c.methods.length cm] 28 (0, 0))) ?_ ?_
  rotate_left
  · intro K hK
    rw [hMe] at hK
    exact hK () _ _ ⟨rfl, trivial⟩ ⟨New.alloc w _, by simp, heap_alloc_new w (.cells #[.slice A c.pool.length q, strV c.name, strV c.super, .slice Af c.fields.length cf, .slice Am c.methods.length cm] 28)⟩
  rintro _ wa fra ⟨na, sa, hMa⟩
  obtain ⟨base, hbase⟩ : ∃ base, base = wa.heap.size := ⟨_, rfl⟩
  obtain ⟨p, hp⟩ : ∃ p : Po, p = ⟨A, q, c.pool⟩ := ⟨_, rfl⟩
  have cx : Cx wa wa.heap.size p := by
    subst hp
    exact ⟨pl.new na, fun a ha hn => by have := (plow a ha hn).1; omega, fun k h0 h5 => na.cell (hk k h0 h5), by omega, Nat.le_refl _, hpn⟩
  refine seq_cut (σ := Nat × Nat × Nat) (fun s => [(1, .pointer (some ⟨M, 0, none⟩)), (4, .pointer (some ⟨s.2.2, 0, none⟩))]) (fun s w' => Wi w' wa.heap.size p s.1 s.2.1 (.slice none 0 0) ([], false) ∧ New wa w' ∧ w'.heap[s.2.2]? = some (.cells #[.pointer (some ⟨s.1, 0, none⟩)] 104 (0, 0)) ∧ s.2.2 ≠ s.1 ∧ s.2.2 ≠ s.2.1 ∧ wa.heap.size ≤ s.2.2) ?_ ?_
  rotate_left
  · intro K hK
    have nd := New.drew wa
    subst hp
    have zd : wa.drew.heap.size = wa.heap.size := rfl
    refine draw_ (w := wa) ok (.q 1 (.q 2 (.br (.e 0 (.q 3 (.br (.e 4 (.e 5 (.e 6 .done))) (.e 5 (.e 4 (.e 6 .done)))))) (.e 5 (.e 0 (.q 3 (.e 4 (.e 6 .done)))))))) [6] (New wa) (by kernel_rfl) (by kernel_rfl) (by kernel_rfl) (by kernel_rfl) (by kernel_rfl) nd ?_
    refine Exists.intro A (Exists.intro c.pool.length (Exists.intro q (And.intro (fun w'' hw => cellB (hw.blk hMa) rfl) ?_)))
    refine And.intro ?_ ?_
    · refine call_ (Make_ok wa.drew) ?_
      rintro e w2 ⟨rfl, wr2, n2, s2⟩
      refine ⟨_, rfl, ?_⟩
      refine Exists.intro (New wa) (And.intro (fun _ h => h) (And.intro (nd.trans n2) ?_))
      refine And.intro ?_ ?_
      · have n3 := New.alloc w2 (.cells #[.pointer (some ⟨wa.heap.size, 0, none⟩), .slice A c.pool.length q, .bool false] 108)
        have hb3 := heap_alloc_new w2 (.cells #[.pointer (some ⟨wa.heap.size, 0, none⟩), .slice A c.pool.length q, .bool false] 108)
        have s3 : (w2.alloc (.cells #[.pointer (some ⟨wa.heap.size, 0, none⟩), .slice A c.pool.length q, .bool false] 108)).heap.size = wa.heap.size + 2 := by simp; omega
        refine Exists.intro (New wa) (And.intro (fun _ h => h) (And.intro ((nd.trans n2).trans n3) ?_))
        have n4 := New.alloc (w2.alloc (.cells #[.pointer (some ⟨wa.heap.size, 0, none⟩), .slice A c.pool.length q, .bool false] 108)) (.cells #[.pointer none] 104)
        have hb4 := heap_alloc_new (w2.alloc (.cells #[.pointer (some ⟨wa.heap.size, 0, none⟩), .slice A c.pool.length q, .bool false] 108)) (.cells #[.pointer none] 104)
        refine Exists.intro (New wa) (And.intro (fun _ h => h) (And.intro (((nd.trans n2).trans n3).trans n4) ?_))
        refine And.intro ⟨_, cell0 hb4⟩ (And.intro (fz0 hb4) (force_ ?_))
        refine st0 hb4 (show (0 : Nat) < 1 by decide) ?_
        intro w5 hX5 m5 s5
        have sst := start (h := w2.heap.size) (g := wa.heap.size) (X := (w2.alloc (.cells #[.pointer (some ⟨wa.heap.size, 0, none⟩), .slice A c.pool.length q, .bool false] 108)).heap.size) cx (by omega) (by omega) (by omega) (by omega) (by omega) (by omega) (((nd.trans n2).trans n3).trans n4) (n4.blk (n3.blk wr2.blk)) (n4.blk hb3) m5
        exact hK (w2.heap.size, wa.heap.size, (w2.alloc (.cells #[.pointer (some ⟨wa.heap.size, 0, none⟩), .slice A c.pool.length q, .bool false] 108)).heap.size) _ _ ⟨rfl, rfl, trivial⟩ ⟨sst.1, sst.2, hX5, by dsimp only; omega, by dsimp only; omega, by dsimp only; omega⟩
      · have n3 := New.alloc w2 (.cells #[.pointer none] 104)
        have hb3 := heap_alloc_new w2 (.cells #[.pointer none] 104)
        have s3 : (w2.alloc (.cells #[.pointer none] 104)).heap.size = wa.heap.size + 2 := by simp; omega
        refine Exists.intro (New wa) (And.intro (fun _ h => h) (And.intro ((nd.trans n2).trans n3) ?_))
        have n4 := New.alloc (w2.alloc (.cells #[.pointer none] 104)) (.cells #[.pointer (some ⟨wa.heap.size, 0, none⟩), .slice A c.pool.length q, .bool false] 108)
        have hb4 := heap_alloc_new (w2.alloc (.cells #[.pointer none] 104)) (.cells #[.pointer (some ⟨wa.heap.size, 0, none⟩), .slice A c.pool.length q, .bool false] 108)
        refine Exists.intro (New wa) (And.intro (fun _ h => h) (And.intro (((nd.trans n2).trans n3).trans n4) ?_))
        refine And.intro ⟨_, cell0 (n4.blk hb3)⟩ (And.intro (fz0 (n4.blk hb3)) (force_ ?_))
        refine st0 (n4.blk hb3) (show (0 : Nat) < 1 by decide) ?_
        intro w5 hX5 m5 s5
        have sst := start (h := (w2.alloc (.cells #[.pointer none] 104)).heap.size) (g := wa.heap.size) (X := w2.heap.size) cx (by omega) (by omega) (by omega) (by omega) (by omega) (by omega) (((nd.trans n2).trans n3).trans n4) (n4.blk (n3.blk wr2.blk)) hb4 m5
        exact hK ((w2.alloc (.cells #[.pointer none] 104)).heap.size, wa.heap.size, w2.heap.size) _ _ ⟨rfl, rfl, trivial⟩ ⟨sst.1, sst.2, hX5, by dsimp only; omega, by dsimp only; omega, by dsimp only; omega⟩
    · have n1 := New.alloc wa.drew (.cells #[.pointer none] 104)
      have hb1 := heap_alloc_new wa.drew (.cells #[.pointer none] 104)
      have s1 : (wa.drew.alloc (.cells #[.pointer none] 104)).heap.size = wa.heap.size + 1 := by simp
      refine Exists.intro (New wa) (And.intro (fun _ h => h) (And.intro (nd.trans n1) ?_))
      refine call_ (Make_ok (wa.drew.alloc (.cells #[.pointer none] 104))) ?_
      rintro e w2 ⟨rfl, wr2, n2, s2⟩
      refine ⟨_, rfl, ?_⟩
      refine Exists.intro (New wa) (And.intro (fun _ h => h) (And.intro ((nd.trans n1).trans n2) ?_))
      have n4 := New.alloc w2 (.cells #[.pointer (some ⟨(wa.drew.alloc (.cells #[.pointer none] 104)).heap.size, 0, none⟩), .slice A c.pool.length q, .bool false] 108)
      have hb4 := heap_alloc_new w2 (.cells #[.pointer (some ⟨(wa.drew.alloc (.cells #[.pointer none] 104)).heap.size, 0, none⟩), .slice A c.pool.length q, .bool false] 108)
      refine Exists.intro (New wa) (And.intro (fun _ h => h) (And.intro (((nd.trans n1).trans n2).trans n4) ?_))
      refine And.intro ⟨_, cell0 (n4.blk (n2.blk hb1))⟩ (And.intro (fz0 (n4.blk (n2.blk hb1))) (force_ ?_))
      refine st0 (n4.blk (n2.blk hb1)) (show (0 : Nat) < 1 by decide) ?_
      intro w5 hX5 m5 s5
      have hz : wa.drew.heap.size = wa.heap.size := rfl
      have sst := start (h := w2.heap.size) (g := (wa.drew.alloc (.cells #[.pointer none] 104)).heap.size) (X := wa.drew.heap.size) cx (by omega) (by omega) (by omega) (by omega) (by omega) (by omega) (((nd.trans n1).trans n2).trans n4) (n4.blk wr2.blk) hb4 m5
      exact hK (w2.heap.size, (wa.drew.alloc (.cells #[.pointer none] 104)).heap.size, wa.drew.heap.size) _ _ ⟨rfl, rfl, trivial⟩ ⟨sst.1, sst.2, hX5, by dsimp only; omega, by dsimp only; omega, by dsimp only; omega⟩
  rintro ⟨h, g, X⟩ w1 fr1 ⟨c1, n1, hX1, hXh, hXg, hXb⟩
  dsimp only at c1 hX1 hXh hXg hXb
  rw [← hbase] at c1 hXb
  have hM1 := n1.blk hMa
  have hMn : ¬ WH h g (.slice none 0 0) M := fun e => by
    have := c1.at_ e
    omega
  have hXn : ¬ WH h g (.slice none 0 0) X := by
    rintro ((e | e) | e)
    · exact hXg e
    · cases e
    · exact hXh e
  have hXl : X < w1.heap.size := (Array.getElem?_eq_some_iff.1 hX1).1
  have n01 := na.trans n1
  have hbl : base = w.heap.size + 1 := by omega
  have hf1 : LRep fldR w1 (WH h g (.slice none 0 0)) (.slice Af c.fields.length cf) c.fields := LRep.weak fldOk (LRep.mod fldOk (by decide) lf0 (n01.mod.mono fun _ _ e => False.elim e)) fun b _ e => by have := c1.at_ e; omega
  have hm1 : LRep mthR w1 (WH h g (.slice none 0 0)) (.slice Am c.methods.length cm) c.methods := LRep.weak mthOk (LRep.mod mthOk (by decide) lm0 (n01.mod.mono fun _ _ e => False.elim e)) fun b _ e => by have := c1.at_ e; omega
  have fresh : ∀ {w' : World} {v' : Value} {t' : WT}, Ki w1 base p h g (.slice none 0 0) w' v' t' → New w w' := fun k => Mod.trans n01 k.mod fun b hb e => by have := c1.at_ e; omega
  have hpl : p.l = c.pool := by rw [hp]
  subst hp
  have kk1 := Ki.refl c1
  refine seq_cut (σ := Value × WT) (fun _ => [(1, .pointer (some ⟨M, 0, none⟩)), (4, .pointer (some ⟨X, 0, none⟩))]) (fun s w' => Ki w1 base ⟨A, q, c.pool⟩ h g (.slice none 0 0) w' s.1 s.2 ∧ Wri (n4) (4) ([], false) 3405691582 s.2) ?_ ?_
  rotate_left
  · intro K hK
    have hX1 := kk1.blk hX1 hXn
    have hM1 := kk1.blk hM1 hMn
    refine Exists.intro (some ⟨h, 0, none⟩) (And.intro (cell0 hX1) ?_)
    refine Exists.intro (some ⟨g, 0, none⟩) (And.intro (cellB kk1.wi.blk rfl) ?_)
    refine call_ (WUn base ⟨A, q, c.pool⟩ h g (.slice none 0 0) ([], false) 4 3405691582 w1 kk1.wi (by simp)) ?_
    rintro e w2 ⟨rfl, v2, k2⟩
    refine ⟨_, rfl, ?_⟩
    rw [← noteU_good goodMagic] at k2
    exact hK (v2, _) _ _ ⟨rfl, rfl, trivial⟩ ⟨kk1.then k2, Wri.n4⟩
  rintro ⟨v2, t2⟩ w2 fr2 ⟨kk2, q2⟩
  dsimp only at kk2 q2
  have p2 := q2.1
  try dsimp only at p2
  simp only [List.length_nil] at p2
  refine seq_cut (σ := Value × WT) (fun _ => [(1, .pointer (some ⟨M, 0, none⟩)), (4, .pointer (some ⟨X, 0, none⟩))]) (fun s w' => Ki w1 base ⟨A, q, c.pool⟩ h g (.slice none 0 0) w' s.1 s.2 ∧ Wri (seqT n2 n2) (4) t2 (0, 52) s.2) ?_ ?_
  rotate_left
  · intro K hK
    have hX2 := kk2.blk hX1 hXn
    have hM2 := kk2.blk hM1 hMn
    refine Exists.intro (some ⟨h, 0, none⟩) (And.intro (cell0 hX2) ?_)
    refine call_ (two1_ok base ⟨A, q, c.pool⟩ h g v2 t2 [0, 52] 2 w2 kk2.wi rfl (by simp; omega)) ?_
    rintro e w3 ⟨rfl, v3, k3⟩
    refine ⟨_, rfl, ?_⟩
    exact hK (v3, _) _ _ ⟨rfl, rfl, trivial⟩ ⟨kk2.then k3, Wri.two⟩
  rintro ⟨v3, t3⟩ w3 fr3 ⟨kk3, q3⟩
  dsimp only at kk3 q3
  have p3 := q3.1
  try dsimp only at p3
  refine seq_cut (σ := Value) (fun _ => [(1, .pointer (some ⟨M, 0, none⟩)), (4, .pointer (some ⟨X, 0, none⟩))]) (fun v' w' => Ki w1 base ⟨A, q, c.pool⟩ h g (.slice none 0 0) w' v' (t3.1 ++ poolF.enc c.pool, t3.2) ∧ Pool.okB c.pool = true) ?_ ?_
  rotate_left
  · intro K hK
    have hX3 := kk3.blk hX1 hXn
    have hM3 := kk3.blk hM1 hMn
    have nd := New.drew w3
    have kd := kk3.new nd
    have hC : (fun w'' : World => w''.heap[X]? = some (.cells #[.pointer (some ⟨h, 0, none⟩)] 104 (0, 0)) ∧ w''.heap[M]? = some (.cells #[.slice A c.pool.length q, strV c.name, strV c.super, .slice Af c.fields.length cf, .slice Am c.methods.length cm] 28 (0, 0)) ∧ w''.heap[h]? = some (.cells #[.pointer (some ⟨g, 0, none⟩), .slice A c.pool.length q, .bool t3.2] 108 (0, 0))) w3.drew := ⟨nd.blk hX3, nd.blk hM3, kd.wi.blk⟩
    rcases (Pool.chk_cases c.pool).symm with ⟨hc, ho⟩ | ⟨hc, ho⟩
    · refine draw_ (w := w3) ok (.q 0 (.q 1 (.q 2 (.q 3 (.q 4 (.q 5 (.e 6 (.q 7 .done)))))))) [7] (fun w'' : World => w''.heap[X]? = some (.cells #[.pointer (some ⟨h, 0, none⟩)] 104 (0, 0)) ∧ w''.heap[M]? = some (.cells #[.slice A c.pool.length q, strV c.name, strV c.super, .slice Af c.fields.length cf, .slice Am c.methods.length cm] 28 (0, 0)) ∧ w''.heap[h]? = some (.cells #[.pointer (some ⟨g, 0, none⟩), .slice A c.pool.length q, .bool t3.2] 108 (0, 0))) (by kernel_rfl) (by kernel_rfl) (by kernel_rfl) (by kernel_rfl) (by kernel_rfl) hC ?_
      refine Exists.intro (some ⟨h, 0, none⟩) (And.intro (fun w'' hw => cell0 hw.1) ?_)
      refine Exists.intro (some ⟨g, 0, none⟩) (And.intro (fun w'' hw => cellB hw.2.2 rfl) ?_)
      refine Exists.intro A (Exists.intro c.pool.length (Exists.intro q (And.intro (fun w'' hw => cellB hw.2.1 rfl) ?_)))
      refine call_ (Pool.Write_ok base g v3 t3.1 A c.pool.length q c.pool w3.drew kd.wi.wr kd.wi.cx.pl (fun a ha hn e => by have h1 := kd.wi.cx.low a ha hn; have h2 := kd.wi.at_ (.inl e); omega) (by omega) kd.wi.bw) ?_
      rintro e w4 ⟨rfl, v4, k4⟩
      refine ⟨_, rfl, ?_⟩
      have kj := kd.wi.act k4
      refine Exists.intro (fun w'' : World => w''.heap[X]? = some (.cells #[.pointer (some ⟨h, 0, none⟩)] 104 (0, 0)) ∧ w''.heap[M]? = some (.cells #[.slice A c.pool.length q, strV c.name, strV c.super, .slice Af c.fields.length cf, .slice Am c.methods.length cm] 28 (0, 0)) ∧ w''.heap[h]? = some (.cells #[.pointer (some ⟨g, 0, none⟩), .slice A c.pool.length q, .bool t3.2] 108 (0, 0))) ?_
      refine And.intro (fun _ h => h) ?_
      refine And.intro ⟨kj.blk hC.1 (kd.hid hXl hXn), kj.blk hC.2.1 (kd.hid (Array.getElem?_eq_some_iff.1 hM1).1 hMn), kj.wi.blk⟩ ?_
      rw [hc]
      rw [ho, if_pos rfl] at kj
      exact hK v4 _ _ ⟨rfl, rfl, trivial⟩ ⟨kd.then kj, ho⟩
    · refine draw_ (w := w3) ok (.q 0 (.q 1 (.q 2 (.q 3 (.q 4 (.q 5 (.e 6 (.q 7 .done)))))))) [7] (fun w'' : World => w''.heap[X]? = some (.cells #[.pointer (some ⟨h, 0, none⟩)] 104 (0, 0)) ∧ w''.heap[M]? = some (.cells #[.slice A c.pool.length q, strV c.name, strV c.super, .slice Af c.fields.length cf, .slice Am c.methods.length cm] 28 (0, 0)) ∧ w''.heap[h]? = some (.cells #[.pointer (some ⟨g, 0, none⟩), .slice A c.pool.length q, .bool t3.2] 108 (0, 0))) (by kernel_rfl) (by kernel_rfl) (by kernel_rfl) (by kernel_rfl) (by kernel_rfl) hC ?_
      refine Exists.intro (some ⟨h, 0, none⟩) (And.intro (fun w'' hw => cell0 hw.1) ?_)
      refine Exists.intro (some ⟨g, 0, none⟩) (And.intro (fun w'' hw => cellB hw.2.2 rfl) ?_)
      refine Exists.intro A (Exists.intro c.pool.length (Exists.intro q (And.intro (fun w'' hw => cellB hw.2.1 rfl) ?_)))
      refine call_ (Pool.Write_ok base g v3 t3.1 A c.pool.length q c.pool w3.drew kd.wi.wr kd.wi.cx.pl (fun a ha hn e => by have h1 := kd.wi.cx.low a ha hn; have h2 := kd.wi.at_ (.inl e); omega) (by omega) kd.wi.bw) ?_
      rintro e w4 ⟨rfl, v4, k4⟩
      refine ⟨_, rfl, ?_⟩
      have kj := kd.wi.act k4
      refine Exists.intro (fun w'' : World => w''.heap[X]? = some (.cells #[.pointer (some ⟨h, 0, none⟩)] 104 (0, 0)) ∧ w''.heap[M]? = some (.cells #[.slice A c.pool.length q, strV c.name, strV c.super, .slice Af c.fields.length cf, .slice Am c.methods.length cm] 28 (0, 0)) ∧ w''.heap[h]? = some (.cells #[.pointer (some ⟨g, 0, none⟩), .slice A c.pool.length q, .bool t3.2] 108 (0, 0))) ?_
      refine And.intro (fun _ h => h) ?_
      refine And.intro ⟨kj.blk hC.1 (kd.hid hXl hXn), kj.blk hC.2.1 (kd.hid (Array.getElem?_eq_some_iff.1 hM1).1 hMn), kj.wi.blk⟩ ?_
      rw [hc]
      exact pr_bad (not_pool ho) (fresh (kd.then kj))
  rintro v4 w4 fr4 ⟨kk4, ho⟩
  have hO : OkPool c.pool := (Pool.okB_iff c.pool).1 ho
  have q4 := Wri.pool (t := t3) (l := c.pool) ⟨ho, fun x hx => (hfp x hx).n⟩
  have hel := enc_len ho hfp
  generalize (t3.1 ++ poolF.enc c.pool, t3.2) = t4 at kk4 q4
  have p4 := q4.1
  refine seq_cut (σ := Value × WT) (fun _ => [(1, .pointer (some ⟨M, 0, none⟩)), (4, .pointer (some ⟨X, 0, none⟩))]) (fun s w' => Ki w1 base ⟨A, q, c.pool⟩ h g (.slice none 0 0) w' s.1 s.2 ∧ Wri (n2) (2) t4 33 s.2) ?_ ?_
  rotate_left
  · intro K hK
    have hX4 := kk4.blk hX1 hXn
    have hM4 := kk4.blk hM1 hMn
    refine Exists.intro (some ⟨h, 0, none⟩) (And.intro (cell0 hX4) ?_)
    refine call_ (two1_ok base ⟨A, q, c.pool⟩ h g v4 t4 [33] 1 w4 kk4.wi rfl (by simp; omega)) ?_
    rintro e w5 ⟨rfl, v5, k5⟩
    refine ⟨_, rfl, ?_⟩
    exact hK (v5, _) _ _ ⟨rfl, rfl, trivial⟩ ⟨kk4.then k5, Wri.n2⟩
  rintro ⟨v5, t5⟩ w5 fr5 ⟨kk5, q5⟩
  dsimp only at kk5 q5
  have p5 := q5.1
  try dsimp only at p5
  refine seq_cut (σ := Value × WT) (fun _ => [(1, .pointer (some ⟨M, 0, none⟩)), (4, .pointer (some ⟨X, 0, none⟩))]) (fun s w' => Ki w1 base ⟨A, q, c.pool⟩ h g (.slice none 0 0) w' s.1 s.2 ∧ Wri (clsT c.pool) (2) t5 c.name s.2) ?_ ?_
  rotate_left
  · intro K hK
    have hX5 := kk5.blk hX1 hXn
    have hM5 := kk5.blk hM1 hMn
    refine Exists.intro (some ⟨h, 0, none⟩) (And.intro (cell0 hX5) ?_)
    refine Exists.intro (⟨c.name.toArray⟩ : ByteArray) (And.intro (cellB hM5 rfl) ?_)
    refine call_ (wclass_ok ⟨A, q, c.pool⟩ base h g v5 t5 c.name w5 kk5.wi hO (by omega)) ?_
    rintro e w6 ⟨rfl, v6, t6, k6, wr6⟩
    refine ⟨_, rfl, ?_⟩
    exact hK (v6, t6) _ _ ⟨rfl, rfl, trivial⟩ ⟨kk5.then k6, wr6⟩
  rintro ⟨v6, t6⟩ w6 fr6 ⟨kk6, q6⟩
  dsimp only at kk6 q6
  have p6 := q6.1
  try dsimp only at p6
  refine seq_cut (σ := Value × WT) (fun _ => [(1, .pointer (some ⟨M, 0, none⟩)), (4, .pointer (some ⟨X, 0, none⟩))]) (fun s w' => Ki w1 base ⟨A, q, c.pool⟩ h g (.slice none 0 0) w' s.1 s.2 ∧ Wri (supT c.pool) 2 t6 c.super s.2) ?_ ?_
  rotate_left
  · intro K hK
    have hX6 := kk6.blk hX1 hXn
    have hM6 := kk6.blk hM1 hMn
    refine Exists.intro (⟨c.super.toArray⟩ : ByteArray) (And.intro (cellB hM6 rfl) ?_)
    refine if_ (fun hs => ?_) (fun hs => ?_)
    · rw [nil_str, decide_eq_true_eq] at hs
      refine Exists.intro (some ⟨h, 0, none⟩) (And.intro (cell0 hX6) ?_)
      refine call_ (two1_ok base ⟨A, q, c.pool⟩ h g v6 t6 [0] 1 w6 kk6.wi rfl (by simp; omega)) ?_
      rintro e w7 ⟨rfl, v7, k7⟩
      refine ⟨_, rfl, ?_⟩
      exact hK (v7, _) _ _ ⟨rfl, rfl, trivial⟩ ⟨kk6.then k7, Wri.sup0 Wri.n2 hs⟩
    · rw [nil_str, decide_eq_false_iff_not] at hs
      refine Exists.intro (some ⟨h, 0, none⟩) (And.intro (cell0 hX6) ?_)
      refine Exists.intro (⟨c.super.toArray⟩ : ByteArray) (And.intro (cellB hM6 rfl) ?_)
      refine call_ (wclass_ok ⟨A, q, c.pool⟩ base h g v6 t6 c.super w6 kk6.wi hO (by omega)) ?_
      rintro e w7 ⟨rfl, v7, t7, k7, wr7⟩
      refine ⟨_, rfl, ?_⟩
      exact hK (v7, t7) _ _ ⟨rfl, rfl, trivial⟩ ⟨kk6.then k7, Wri.sup1 wr7 hs⟩
  rintro ⟨v7, t7⟩ w7 fr7 ⟨kk7, q7⟩
  dsimp only at kk7 q7
  have p7 := q7.1
  refine seq_cut (σ := Value × WT) (fun _ => [(1, .pointer (some ⟨M, 0, none⟩)), (4, .pointer (some ⟨X, 0, none⟩))]) (fun s w' => Ki w1 base ⟨A, q, c.pool⟩ h g (.slice none 0 0) w' s.1 s.2 ∧ Wri (n2) (2) t7 0 s.2) ?_ ?_
  rotate_left
  · intro K hK
    have hX7 := kk7.blk hX1 hXn
    have hM7 := kk7.blk hM1 hMn
    refine Exists.intro (some ⟨h, 0, none⟩) (And.intro (cell0 hX7) ?_)
    refine call_ (two1_ok base ⟨A, q, c.pool⟩ h g v7 t7 [0] 1 w7 kk7.wi rfl (by simp; omega)) ?_
    rintro e w8 ⟨rfl, v8, k8⟩
    refine ⟨_, rfl, ?_⟩
    exact hK (v8, _) _ _ ⟨rfl, rfl, trivial⟩ ⟨kk7.then k8, Wri.n2⟩
  rintro ⟨v8, t8⟩ w8 fr8 ⟨kk8, q8⟩
  dsimp only at kk8 q8
  have p8 := q8.1
  try dsimp only at p8
  refine seq_cut (σ := Value × WT) (fun _ => [(1, .pointer (some ⟨M, 0, none⟩)), (4, .pointer (some ⟨X, 0, none⟩))]) (fun s w' => Ki w1 base ⟨A, q, c.pool⟩ h g (.slice none 0 0) w' s.1 s.2 ∧ Wri (fldsT c.pool) (2 + csum cFld c.fields) t8 c.fields s.2) ?_ ?_
  rotate_left
  · intro K hK
    have hX8 := kk8.blk hX1 hXn
    have hM8 := kk8.blk hM1 hMn
    refine Exists.intro (some ⟨h, 0, none⟩) (And.intro (cell0 hX8) ?_)
    refine Exists.intro Af (Exists.intro c.fields.length (Exists.intro cf (And.intro (cellB hM8 rfl) ?_)))
    refine call_ (list_fld ⟨A, q, c.pool⟩ base h g v8 t8 _ c.fields X w8 kk8.wi hO (kk8.lrep fldOk (by decide) hf1) hX8 (kk8.hid hXl hXn) hff (by omega)) ?_
    rintro e w9 ⟨rfl, v9, t9, k9, wr9⟩
    refine ⟨_, rfl, ?_⟩
    exact hK (v9, t9) _ _ ⟨rfl, rfl, trivial⟩ ⟨kk8.then k9, wr9⟩
  rintro ⟨v9, t9⟩ w9 fr9 ⟨kk9, q9⟩
  dsimp only at kk9 q9
  have p9 := q9.1
  try dsimp only at p9
  refine seq_cut (σ := Value × WT) (fun _ => [(1, .pointer (some ⟨M, 0, none⟩)), (4, .pointer (some ⟨X, 0, none⟩))]) (fun s w' => Ki w1 base ⟨A, q, c.pool⟩ h g (.slice none 0 0) w' s.1 s.2 ∧ Wri (mthsT c.pool) (2 + csum cMth c.methods) t9 c.methods s.2) ?_ ?_
  rotate_left
  · intro K hK
    have hX9 := kk9.blk hX1 hXn
    have hM9 := kk9.blk hM1 hMn
    refine Exists.intro (some ⟨h, 0, none⟩) (And.intro (cell0 hX9) ?_)
    refine Exists.intro Am (Exists.intro c.methods.length (Exists.intro cm (And.intro (cellB hM9 rfl) ?_)))
    refine call_ (list_mth ⟨A, q, c.pool⟩ base h g v9 t9 _ c.methods X w9 kk9.wi hO (kk9.lrep mthOk (by decide) hm1) hX9 (kk9.hid hXl hXn) hfm (by omega)) ?_
    rintro e w10 ⟨rfl, v10, t10, k10, wr10⟩
    refine ⟨_, rfl, ?_⟩
    exact hK (v10, t10) _ _ ⟨rfl, rfl, trivial⟩ ⟨kk9.then k10, wr10⟩
  rintro ⟨v10, t10⟩ w10 fr10 ⟨kk10, q10⟩
  dsimp only at kk10 q10
  have p10 := q10.1
  try dsimp only at p10
  refine seq_cut (σ := Value × WT) (fun _ => [(1, .pointer (some ⟨M, 0, none⟩)), (4, .pointer (some ⟨X, 0, none⟩))]) (fun s w' => Ki w1 base ⟨A, q, c.pool⟩ h g (.slice none 0 0) w' s.1 s.2 ∧ Wri (n2) (2) t10 0 s.2) ?_ ?_
  rotate_left
  · intro K hK
    have hX10 := kk10.blk hX1 hXn
    have hM10 := kk10.blk hM1 hMn
    refine Exists.intro (some ⟨h, 0, none⟩) (And.intro (cell0 hX10) ?_)
    refine call_ (two1_ok base ⟨A, q, c.pool⟩ h g v10 t10 [0] 1 w10 kk10.wi rfl (by simp; omega)) ?_
    rintro e w11 ⟨rfl, v11, k11⟩
    refine ⟨_, rfl, ?_⟩
    exact hK (v11, _) _ _ ⟨rfl, rfl, trivial⟩ ⟨kk10.then k11, Wri.n2⟩
  rintro ⟨v11, t11⟩ w11 fr11 ⟨kk11, q11⟩
  dsimp only at kk11 q11
  have p11 := q11.1
  try dsimp only at p11
  have hfile := wri_file (Wri.by_ (q2.seq (Wri.assoc (q3.seq (Wri.dseq q4 (q5.seq (q6.seq (q7.seq (q8.seq (q9.seq (q10.seq q11)))))))))))
  have hX11 := kk11.blk hX1 hXn
  have nw := fresh kk11
  refine seq_cut (σ := Unit) (fun _ => [(1, .pointer (some ⟨M, 0, none⟩)), (4, .pointer (some ⟨X, 0, none⟩))]) (fun _ w' => w' = w11 ∧ t11.2 = false ∧ t11.1.length ≤ 32768) ?_ ?_
  rotate_left
  · intro K hK
    refine block_ ?_
    refine Exists.intro (some ⟨h, 0, none⟩) (And.intro (cell0 hX11) ?_)
    refine Exists.intro t11.2 (And.intro (cellB kk11.wi.blk rfl) ?_)
    refine if_ (fun hbad => ?_) (fun hbad => ?_)
    · exact pr_bad (hfile.1 hbad) nw
    · refine Exists.intro (some ⟨h, 0, none⟩) (And.intro (cell0 hX11) ?_)
      refine Exists.intro (some ⟨g, 0, none⟩) (And.intro (cellB kk11.wi.blk rfl) ?_)
      refine call_ (Len_ok base g v11 t11.1 w11 kk11.wi.wr) ?_
      rintro e wb ⟨rfl, hwb⟩
      obtain rfl := hwb.symm
      refine ⟨_, rfl, ?_⟩
      refine if_p (fun hp => ?_) (fun hp => ?_)
      · replace hp : (32768 : Int) < (t11.1.length : Int) := hp
        exact pr_bad (hfile.2.1 hbad (by omega)) nw
      · replace hp : ¬ (32768 : Int) < (t11.1.length : Int) := hp
        exact hK () _ _ ⟨rfl, rfl, trivial⟩ ⟨rfl, hbad, by omega⟩
  rintro _ wy fry ⟨hwy, hgood, hle⟩
  obtain rfl := hwy.symm
  obtain ⟨he, hbs⟩ := hfile.2.2 hgood hle
  refine Exists.intro (some ⟨h, 0, none⟩) (And.intro (cell0 hX11) ?_)
  refine Exists.intro (some ⟨g, 0, none⟩) (And.intro (cellB kk11.wi.blk rfl) ?_)
  refine call_ (All_ok base g v11 t11.1 w11 kk11.wi.wr (by omega)) ?_
  rintro e wz ⟨u, rfl, ownz, nz⟩
  refine ⟨_, rfl, ?_⟩
  obtain ⟨Az, cz, rfl, h5, h6, rowz, _⟩ := own_slice ownz
  rw [← hbs] at rowz h5
  exact ⟨Az, cz, by rw [he, hbs]; rfl, rowz, h5, h6, nw.trans nz⟩

end Go.Proofs.YtdcaafldnbcdkaaGreatDoor.Class

/-! ### KRef6 -/
namespace Go.Proofs.YtdcaafldnbcdkaaGreatDoor.Class
open Go Go.Proofs.YtdcaafldnbcdkaaGreatDoor Go.Proofs.YtdcaafldnbcdkaaGreatDoor.Eng Go.Proofs Go.Proofs.YtdcaafldnbcdkaaGreatDoor.Word Go.Proofs.YtdcaafldnbcdkaaGreatDoor.Fmt
open Go.Proofs.YtdcaafldnbcdkaaGreatDoor.Pool (Ent at_ poolF strV entC entV EntOk Pl OkPool both own_low tagAt)
set_option maxRecDepth 10000

theorem Wri.by_or {α β : Type} {T : Tell α} {c : Nat} {t t1 : WT} {y : β} {f : β → α} {P : β → Prop} {hf : ∀ x y, P x → P y → f x = f y → x = y} {p : Bool} (e : p = true ↔ P y) (hp : p = true → Wri T c (t.1, t.2 || !p) (f y) t1) (hn : p = false → t1.2 = true ∧ t1.1.length ≤ t.1.length + c) : Wri (byT T f P hf) c t y t1 := by
  cases hpp : p with
  | false => exact Wri.nok (hn hpp).1 (hn hpp).2 fun o => by have := e.2 o.1; rw [hpp] at this; cases this
  | true => exact Wri.by (p := p) (hp hpp) rfl e
theorem keep_bad {α : Type} {T : Tell α} {c : Nat} {t t1 : WT} {x : α} (h : Wri T c t x t1) (e : t.2 = true) : t1.2 = true := by
  cases h1 : t1.2 with
  | true => rfl
  | false => have := h.keep h1; rw [e] at this; cases this
theorem noteU_two {t : WT} {n : Nat} (h : n < 65536) : noteU t 2 [0, (n : Int)] = noteU (noteU t 2 [0]) 2 [(n : Int)] := by
  have f0 : Word.fits ((2 : Nat) : Int) 0 false = true := (Pool.fits2 (by omega) (by omega)).1
  have fn : Word.fits ((2 : Nat) : Int) (n : Int) false = true := (Pool.fits2 (by omega) (by omega)).1
  have g1 := good_one (k := 2) (sign := false) Pool.w2 f0
  have g2 := good_one (k := 2) (sign := false) Pool.w2 fn
  have g3 := good_two (k := 2) (sign := false) Pool.w2 f0 fn
  rw [noteU_good g1, noteU_good g2, noteU_good g3]
  unfold allBs
  rw [g1, g2, g3]
  simp
abbrev mthC (y : Mth) (Ab : Option Addr) (cb : Nat) (Ah : Option Addr) (ch : Nat) (Am : Option Addr) (cm : Nat) : Array Value := #[zi y.acc, strV y.name, strV y.typ, zi y.code.stack, zi y.code.locals, .slice Ab y.code.bytes.length cb, .slice Ah y.code.hands.length ch, .slice Am y.code.maps.length cm]
theorem rowM {w : World} {M : Nat} {y : Mth} {Ab Ah Am : Option Addr} {cb ch cm : Nat} (hM : w.heap[M]? = some (.cells (mthC y Ab cb Ah ch Am cm) 58 (0, 0))) (j : Nat) (u : Value) (hu : [zi y.code.stack, zi y.code.locals, .slice Ab y.code.bytes.length cb, .slice Ah y.code.hands.length ch, .slice Am y.code.maps.length cm][j]? = some u) : w.cell? (((⟨M, 0, none⟩ : Addr).add 3).add j) = some u := by
  rw [add_add_]
  refine cellB hM ?_
  rw [← hu, ← Array.getElem?_toList]
  show ([zi y.acc, strV y.name, strV y.typ] ++ [zi y.code.stack, zi y.code.locals, .slice Ab y.code.bytes.length cb, .slice Ah y.code.hands.length ch, .slice Am y.code.maps.length cm])[3 + j]? = _
  rw [List.getElem?_append_right (show 3 ≤ 3 + j by omega)]
  show [zi y.code.stack, zi y.code.locals, .slice Ab y.code.bytes.length cb, .slice Ah y.code.hands.length ch, .slice Am y.code.maps.length cm][3 + j - 3]? = _
  rw [Nat.add_sub_cancel_left]
/-- A method that is being told. -/
structure Mm (w1 : World) (base : Nat) (p : Po) (h : Nat) (v : Value) (E : Nat) (y : Mth) (Ab : Option Addr) (cb : Nat) (Ah : Option Addr) (ch : Nat) (Am : Option Addr) (cm : Nat) (wl : World) (v' : Value) (t' : WT) : Prop where
  kr : Kr w1 base p h v wl v' t'
  blk : wl.heap[E]? = some (.cells (mthC y Ab cb Ah ch Am cm) 58 (0, 0))
  hid : ¬ RHb h v' E
  l1 : LRep u8R wl (fun q => RHb h v q ∨ w1.heap.size ≤ q) (.slice Ab y.code.bytes.length cb) y.code.bytes
  l2 : LRep hndR wl (fun q => RHb h v q ∨ w1.heap.size ≤ q) (.slice Ah y.code.hands.length ch) y.code.hands
  l3 : LRep mpR wl (fun q => RHb h v q ∨ w1.heap.size ≤ q) (.slice Am y.code.maps.length cm) y.code.maps
theorem Mm.act {w1 wl w' : World} {base h E : Nat} {p : Po} {v v' v'' : Value} {t' t'' : WT} {y : Mth} {Ab Ah Am : Option Addr} {cb ch cm : Nat} (m : Mm w1 base p h v E y Ab cb Ah ch Am cm wl v' t') (k : Kr wl base p h v' w' v'' t'') : Mm w1 base p h v E y Ab cb Ah ch Am cm w' v'' t'' := by
  have hl := (Array.getElem?_eq_some_iff.1 m.blk).1
  have hs := m.kr.mod.size
  have hk := k.mod.mono fun q _ e => m.kr.back e
  exact ⟨m.kr.then k, k.blk m.blk m.hid, k.hid hl m.hid, LRep.mod u8Ok (by decide) m.l1 hk, LRep.mod hndOk (by decide) m.l2 hk, LRep.mod mpOk (by decide) m.l3 hk⟩
theorem not_ok {c : Cls} (h : ¬ fileT.ok c) : errOf c = 80 ∧ bytesOf c = [] := by
  unfold errOf bytesOf
  exact ⟨if_neg h, if_neg fun e => h e.1⟩
theorem file_few {c : Cls} (o : fileT.ok c) : c.fields.length ≤ 256 ∧ c.methods.length ≤ 256 := ⟨o.2.2.2.2.2.2.2.2.2.1.1, o.2.2.2.2.2.2.2.2.2.2.1.1⟩
def magicS : List UInt8 := [202, 254, 186, 190, 0, 0, 0, 52]
theorem magic_is : (enc 4 3405691582 ++ (enc 2 0 ++ enc 2 52)) = magicS := by decide
theorem rPrint_ok (cs0 : List Value) (c : Cls) (S : Nat → Prop) (w : World) (hx : clsR w S cs0 c) (hf : fCls c) (hi : iCls c) (hk : Kt w) (hG : 0 < w.heap.size) (hm : cCls c ≤ 500000000) :
    Calls Tryz.prog 28 #[.agg cs0.toArray] w (PrRes w c) := by
  replace hx := clsOk.weak (S' := fun b => w.heap.size + 1 ≤ b) hx fun b hb e => by omega
  obtain ⟨_, _, _, rfl, lp, lf, lm⟩ := hx
  obtain ⟨hfp, hff, hfm⟩ := hf
  have hcost : cCls c = csum cFld c.fields + csum cMth c.methods := rfl
  obtain ⟨A, q, rfl, pl, hq1, hq2, plow⟩ := pool_row lp hfp
  obtain ⟨_, _, _, hpn, _⟩ := lp.get entOk (by decide)
  have lf0 := lf
  obtain ⟨Af, cf, rfl, hnf, _⟩ := lf.get fldOk (by decide)
  have lm0 := lm
  obtain ⟨Am, cm, rfl, hnm, _⟩ := lm.get mthOk (by decide)
  refine enter ok Tryz.func28 rfl rfl rfl ?_
  obtain ⟨M, hMe⟩ : ∃ M, M = w.heap.size := ⟨_, rfl⟩
  refine seq_cut (σ := Unit) (fun _ => [(1, .pointer (some ⟨M, 0, none⟩))]) (fun _ w' => New w w' ∧ w'.heap.size = w.heap.size + 1 ∧ w'.heap[M]? = some (.cells #[.slice A c.pool.length q, strV c.name, strV c.super, .slice Af c.fields.length cf, .slice Am c.methods.length cm] 28 (0, 0))) ?_ ?_
  rotate_left
  · intro K hK
    rw [hMe] at hK
    exact hK () _ _ ⟨rfl, trivial⟩ ⟨New.alloc w _, by simp, heap_alloc_new w (.cells #[.slice A c.pool.length q, strV c.name, strV c.super, .slice Af c.fields.length cf, .slice Am c.methods.length cm] 28)⟩
  rintro _ wa fra ⟨na, sa, hMa⟩
  refine seq_cut (σ := Unit) (fun _ => [(1, .pointer (some ⟨M, 0, none⟩))]) (fun _ w' => New wa w' ∧ Pool.okB c.pool = true ∧ c.fields.length ≤ 256 ∧ c.methods.length ≤ 256) ?_ ?_
  rotate_left
  · intro K hK
    refine Exists.intro A (Exists.intro c.pool.length (Exists.intro q (And.intro (cellB hMa rfl) ?_)))
    refine call_ (Pool.RCheck_ok A c.pool.length q c.pool wa (pl.new na)) ?_
    rintro e wb ⟨rfl, nb⟩
    refine ⟨_, rfl, ?_⟩
    have nw := na.trans nb
    have hMb := nb.blk hMa
    rcases (Pool.chk_cases c.pool).symm with ⟨hc, ho⟩ | ⟨hc, ho⟩
    · rw [hc]
      refine Exists.intro Af (Exists.intro c.fields.length (Exists.intro cf (And.intro (cellB hMb rfl) ?_)))
      refine if_p (fun h1 => ?_) (fun h1 => ?_)
      · replace h1 : 256 < (c.fields.length : Int) := h1
        exact pr_bad (not_ok fun o => by have := (file_few o).1; omega) nw
      · replace h1 : ¬ 256 < (c.fields.length : Int) := h1
        refine Exists.intro Am (Exists.intro c.methods.length (Exists.intro cm (And.intro (cellB hMb rfl) ?_)))
        refine if_p (fun h2 => ?_) (fun h2 => ?_)
        · replace h2 : 256 < (c.methods.length : Int) := h2
          exact pr_bad (not_ok fun o => by have := (file_few o).2; omega) nw
        · replace h2 : ¬ 256 < (c.methods.length : Int) := h2
          exact hK () _ _ ⟨rfl, trivial⟩ ⟨nb, ho, by omega, by omega⟩
    · rw [hc]
      exact pr_bad (not_pool ho) nw
  rintro _ wb frb ⟨nb, ho, hfe, hme⟩
  have hO : OkPool c.pool := (Pool.okB_iff c.pool).1 ho
  have hel := enc_len ho hfp
  have hMb := nb.blk hMa
  have hsb := nb.size
  obtain ⟨base, hbase⟩ : ∃ base, base = wb.heap.size := ⟨_, rfl⟩
  have cx : Cx wb base ⟨A, q, c.pool⟩ :=
    ⟨pl.new (na.trans nb), fun a ha hn => by have := (plow a ha hn).1; omega, fun k h0 h5 => (na.trans nb).cell (hk k h0 h5), by omega, by omega, hpn⟩
  -- its head
  refine seq_cut (σ := Nat × Value) (fun s => [(1, .pointer (some ⟨M, 0, none⟩)), (4, .pointer (some ⟨s.1, 0, none⟩))]) (fun s w' => New wb w' ∧ Ri w' base ⟨A, q, c.pool⟩ s.1 s.2 (magicS, false)) ?_ ?_
  rotate_left
  · intro K hK
    refine Exists.intro A (Exists.intro c.pool.length (Exists.intro q (And.intro (cellB hMb rfl) ?_)))
    have n1 := New.alloc wb (.cells (bvs magicS).toArray 5)
    have o1 := own_lit wb (bvs magicS) 5 1 8 base (by omega) rfl (by decide)
    have n2 := New.alloc (wb.alloc (.cells (bvs magicS).toArray 5)) (.cells #[.slice A c.pool.length q, .slice (some ⟨wb.heap.size, 0, none⟩) 8 8, .bool false] 135)
    have hb2 := heap_alloc_new (wb.alloc (.cells (bvs magicS).toArray 5)) (.cells #[.slice A c.pool.length q, .slice (some ⟨wb.heap.size, 0, none⟩) 8 8, .bool false] 135)
    have s1 : (wb.alloc (.cells (bvs magicS).toArray 5)).heap.size = wb.heap.size + 1 := by simp
    exact hK ((wb.alloc (.cells (bvs magicS).toArray 5)).heap.size, .slice (some ⟨wb.heap.size, 0, none⟩) 8 8) _ _ ⟨rfl, rfl, trivial⟩ ⟨n1.trans n2, ⟨hb2, own_new n2 o1, (fun e => by simp [Value.ownBlock] at e), by dsimp only; omega, cx.new (n1.trans n2)⟩⟩
  rintro ⟨h, v0⟩ w1 fr1 ⟨n1, c1⟩
  dsimp only at c1
  have hM1 := n1.blk hMb
  have hMn : ¬ RHb h v0 M := fun e => by
    have := c1.at_ e
    omega
  have n01 := (na.trans nb).trans n1
  have hf1 : LRep fldR w1 (RHb h v0) (.slice Af c.fields.length cf) c.fields := LRep.weak fldOk (LRep.mod fldOk (by decide) lf0 (n01.mod.mono fun _ _ e => False.elim e)) fun b _ e => by have := c1.at_ e; omega
  have hm1 : LRep mthR w1 (RHb h v0) (.slice Am c.methods.length cm) c.methods := LRep.weak mthOk (LRep.mod mthOk (by decide) lm0 (n01.mod.mono fun _ _ e => False.elim e)) fun b _ e => by have := c1.at_ e; omega
  have fresh : ∀ {w' : World} {v' : Value} {t' : WT}, Kr w1 base ⟨A, q, c.pool⟩ h v0 w' v' t' → New w w' := fun k => Mod.trans n01 k.mod fun b hb e => by have := c1.at_ e; omega
  have hb1 := c1.bw
  have q2 : Wri n4 4 ([], false) 3405691582 (enc 4 3405691582, false) := ⟨by simp [enc_length], .inr ⟨rfl, rfl, ⟨by decide, by unfold i64; decide⟩, rfl⟩⟩
  have q3 : Wri (seqT n2 n2) 4 (enc 4 3405691582, false) (0, 52) (magicS, false) := ⟨by decide, .inr ⟨rfl, rfl, ⟨n2_ok (by decide) (by decide), n2_ok (by decide) (by decide)⟩, by rw [← magic_is]; rfl⟩⟩
  have kk1 := Kr.refl c1
  -- its pool
  refine seq_cut (σ := Value) (fun _ => [(1, .pointer (some ⟨M, 0, none⟩)), (4, .pointer (some ⟨h, 0, none⟩))]) (fun v' w' => Kr w1 base ⟨A, q, c.pool⟩ h v0 w' v' (magicS ++ poolF.enc c.pool, false)) ?_ ?_
  rotate_left
  · intro K hK
    obtain ⟨A3, c3, rfl, _⟩ := own_slice c1.own
    have nd := New.drew w1
    refine draw_ (w := w1) ok (.q 0 (.q 1 (.q 2 (.q 3 (.q 4 (.q 5 (.q 6 (.e 7 (.e 8 (.q 9 (.q 10 (.e 11 .done)))))))))))) [11] (fun w'' : World => w''.heap[h]? = some (.cells #[.slice A c.pool.length q, .slice A3 magicS.length c3, .bool false] 135 (0, 0)) ∧ w''.heap[M]? = some (.cells #[.slice A c.pool.length q, strV c.name, strV c.super, .slice Af c.fields.length cf, .slice Am c.methods.length cm] 28 (0, 0))) (by kernel_rfl) (by kernel_rfl) (by kernel_rfl) (by kernel_rfl) (by kernel_rfl) ⟨nd.blk c1.blk, nd.blk hM1⟩ ?_
    refine Exists.intro A3 (Exists.intro magicS.length (Exists.intro c3 (And.intro (fun w'' hw => cellB hw.1 rfl) ?_)))
    refine Exists.intro A (Exists.intro c.pool.length (Exists.intro q (And.intro (fun w'' hw => cellB hw.2 rfl) ?_)))
    have kd := kk1.new nd
    refine call_ (RPoolBytes_ok A q c.pool w1.drew kd.ri.cx.pl ho) ?_
    rintro e w2 ⟨A2, c2, rfl, g2⟩
    refine ⟨_, rfl, ?_⟩
    have k2 := kd.new g2.new
    refine Exists.intro (fun w'' : World => w''.heap[h]? = some (.cells #[.slice A c.pool.length q, .slice A3 magicS.length c3, .bool false] 135 (0, 0)) ∧ w''.heap[M]? = some (.cells #[.slice A c.pool.length q, strV c.name, strV c.super, .slice Af c.fields.length cf, .slice Am c.methods.length cm] 28 (0, 0))) ?_
    refine And.intro (fun _ h => h) ?_
    refine And.intro ⟨g2.new.blk (nd.blk c1.blk), g2.new.blk (nd.blk hM1)⟩ ?_
    obtain ⟨_, _, he, _, _, row2, _⟩ := own_slice g2.own
    cases he
    refine eff_app rfl rfl (fun _ _ => rfl) ?_
    refine append2_ ok rfl rfl rfl rfl k2.ri.own rfl rfl row2 (by rw [bvs_length]; exact (Nat.mul_one _).symm) (bvs_one _) (by decide) rfl (by show (8 + (poolF.enc c.pool).length) * 1 ≤ _; omega) (by show 8 + (poolF.enc c.pool).length ≤ _; omega) k2.ri.bw ?_
    intro A7 c7 w7 own7 mod7 st7
    have hb7 := mod7.blk k2.ri.blk (fun e => k2.ri.off e.symm)
    have hM7 := mod7.blk (g2.new.blk (nd.blk hM1)) (fun e => hMn (.inl e))
    refine Exists.intro (fun w'' : World => w''.heap[h]? = some (.cells #[.slice A c.pool.length q, .slice A3 magicS.length c3, .bool false] 135 (0, 0)) ∧ w''.heap[M]? = some (.cells #[.slice A c.pool.length q, strV c.name, strV c.super, .slice Af c.fields.length cf, .slice Am c.methods.length cm] 28 (0, 0))) ?_
    refine And.intro (fun _ h => h) ?_
    refine And.intro ⟨hb7, hM7⟩ ?_
    refine And.intro ⟨_, cellB hb7 rfl⟩ (And.intro (fzB hb7 _) (force_ ?_))
    refine stK hb7 (show (1 : Nat) < 3 by decide) ?_
    intro w8 hb8 m8 s8
    have k8 := k2.ri.put (bs := magicS ++ poolF.enc c.pool) mod7 (by rw [List.length_append, bvs_append]; exact own7) st7 m8 hb8
    exact hK (.slice A7 (magicS.length + (poolF.enc c.pool).length) c7) _ _ ⟨rfl, rfl, trivial⟩ (k2.then k8)
  rintro v4 w4 fr4 kk4
  have q4 := Wri.pool (t := (magicS, false)) (l := c.pool) ⟨ho, fun x hx => (hfp x hx).n⟩
  have hl4 : magicS.length = 8 := rfl
  generalize ht4 : ((magicS ++ poolF.enc c.pool, false) : WT) = t4 at kk4
  replace q4 : Wri (tF poolF) (poolF.enc c.pool).length (magicS, false) c.pool t4 := by rw [← ht4]; exact q4
  have p4 := q4.1
  dsimp only at p4
  clear ht4
  refine seq_cut (σ := Value × WT) (fun _ => [(1, .pointer (some ⟨M, 0, none⟩)), (4, .pointer (some ⟨h, 0, none⟩))]) (fun s w' => Kr w1 base ⟨A, q, c.pool⟩ h v0 w' s.1 s.2 ∧ Wri (n2) (2) t4 33 s.2) ?_ ?_
  rotate_left
  · intro K hK
    refine call_ (ruL_ok base ⟨A, q, c.pool⟩ h v4 t4 2 [33] 1 w4 kk4.ri rfl (by simp) (by simp; omega)) ?_
    rintro e w5 ⟨rfl, v5, k5⟩
    refine ⟨_, rfl, ?_⟩
    exact hK (v5, _) _ _ ⟨rfl, rfl, trivial⟩ ⟨kk4.then k5, Wri.n2⟩
  rintro ⟨v5, t5⟩ w5 fr5 ⟨kk5, q5⟩
  dsimp only at kk5 q5
  have p5 := q5.1
  refine seq_cut (σ := Value × WT) (fun _ => [(1, .pointer (some ⟨M, 0, none⟩)), (4, .pointer (some ⟨h, 0, none⟩))]) (fun s w' => Kr w1 base ⟨A, q, c.pool⟩ h v0 w' s.1 s.2 ∧ Wri (clsT c.pool) 2 t5 c.name s.2) ?_ ?_
  rotate_left
  · intro K hK
    have hM5 := kk5.blk hM1 hMn
    refine Exists.intro (⟨c.name.toArray⟩ : ByteArray) (And.intro (cellB hM5 rfl) ?_)
    refine call_ (rwclass_ok base ⟨A, q, c.pool⟩ h v5 t5 c.name w5 kk5.ri hO (by omega)) ?_
    rintro e w6 ⟨rfl, v6, t6, k6, wr6⟩
    refine ⟨_, rfl, ?_⟩
    exact hK (v6, t6) _ _ ⟨rfl, rfl, trivial⟩ ⟨kk5.then k6, wr6⟩
  rintro ⟨v6, t6⟩ w6 fr6 ⟨kk6, q6⟩
  dsimp only at kk6 q6
  have p6 := q6.1
  refine seq_cut (σ := Value × WT) (fun _ => [(1, .pointer (some ⟨M, 0, none⟩)), (4, .pointer (some ⟨h, 0, none⟩))]) (fun s w' => Kr w1 base ⟨A, q, c.pool⟩ h v0 w' s.1 s.2 ∧ Wri (supT c.pool) 2 t6 c.super s.2) ?_ ?_
  rotate_left
  · intro K hK
    have hM6 := kk6.blk hM1 hMn
    refine Exists.intro (⟨c.super.toArray⟩ : ByteArray) (And.intro (cellB hM6 rfl) ?_)
    refine if_ (fun hs => ?_) (fun hs => ?_)
    · rw [nil_str, decide_eq_true_eq] at hs
      refine call_ (ruL_ok base ⟨A, q, c.pool⟩ h v6 t6 2 [0] 1 w6 kk6.ri rfl (by simp) (by simp; omega)) ?_
      rintro e w7 ⟨rfl, v7, k7⟩
      refine ⟨_, rfl, ?_⟩
      exact hK (v7, _) _ _ ⟨rfl, rfl, trivial⟩ ⟨kk6.then k7, Wri.sup0 Wri.n2 hs⟩
    · rw [nil_str, decide_eq_false_iff_not] at hs
      refine Exists.intro (⟨c.super.toArray⟩ : ByteArray) (And.intro (cellB hM6 rfl) ?_)
      refine call_ (rwclass_ok base ⟨A, q, c.pool⟩ h v6 t6 c.super w6 kk6.ri hO (by omega)) ?_
      rintro e w7 ⟨rfl, v7, t7, k7, wr7⟩
      refine ⟨_, rfl, ?_⟩
      exact hK (v7, t7) _ _ ⟨rfl, rfl, trivial⟩ ⟨kk6.then k7, Wri.sup1 wr7 hs⟩
  rintro ⟨v7, t7⟩ w7 fr7 ⟨kk7, q7⟩
  dsimp only at kk7 q7
  have p7 := q7.1
  -- how many fields
  obtain ⟨t8, ht8⟩ : ∃ t8, t8 = noteU t7 2 [0] := ⟨_, rfl⟩
  have q8 : Wri n2 2 t7 0 t8 := by rw [ht8]; exact Wri.n2
  have p8 := q8.1
  refine seq_cut (σ := Value × WT) (fun _ => [(1, .pointer (some ⟨M, 0, none⟩)), (4, .pointer (some ⟨h, 0, none⟩))]) (fun s w' => Kr w1 base ⟨A, q, c.pool⟩ h v0 w' s.1 s.2 ∧ Wri n2 2 (t8.1, t8.2 || !decide (c.fields.length ≤ 256)) (c.fields.length : Int) s.2) ?_ ?_
  rotate_left
  · intro K hK
    have hM7 := kk7.blk hM1 hMn
    refine Exists.intro Af (Exists.intro c.fields.length (Exists.intro cf (And.intro (cellB hM7 rfl) ?_)))
    refine call_ (ruL_ok base ⟨A, q, c.pool⟩ h v7 t7 2 [0, (c.fields.length : Int)] 2 w7 kk7.ri rfl (by simp; omega) (by simp; omega)) ?_
    rintro e w8 ⟨rfl, v8, k8⟩
    refine ⟨_, rfl, ?_⟩
    rw [noteU_two (by omega), ← ht8] at k8
    refine hK (v8, noteU t8 2 [(c.fields.length : Int)]) _ _ ⟨rfl, rfl, trivial⟩ ⟨kk7.then k8, ?_⟩
    rw [decide_eq_true hfe, Bool.not_true, Bool.or_false]
    exact Wri.n2
  rintro ⟨v8, t8'⟩ w8 fr8 ⟨kk8, wr8⟩
  dsimp only at kk8 wr8
  refine seq_cut (σ := Value × WT) (fun _ => [(1, .pointer (some ⟨M, 0, none⟩)), (4, .pointer (some ⟨h, 0, none⟩))]) (fun s w' => Kr w1 base ⟨A, q, c.pool⟩ h v0 w' s.1 s.2 ∧ Wri (fldsT c.pool) (2 + csum cFld c.fields) t8 c.fields s.2) ?_ ?_
  rotate_left
  · intro K hK
    refine seq_assign ?_
    refine den_loop (σ := Nat × Value × WT) (fun s => [(1, .pointer (some ⟨M, 0, none⟩)), (4, .pointer (some ⟨h, 0, none⟩)), (5, zi (s.1 : Int))]) (fun m s wl => c.fields.length ≤ m + s.1 ∧ s.1 ≤ c.fields.length ∧ Kr w1 base ⟨A, q, c.pool⟩ h v0 wl s.2.1 s.2.2 ∧ WLst (fldT c.pool) 256 cFld t8 c.fields s.1 s.2.2) c.fields.length (0, v8, t8') ⟨rfl, rfl, rfl, trivial⟩ ⟨by dsimp only; omega, Nat.zero_le _, kk8, WLst.start (by decide) wr8⟩ ?_
    rintro m ⟨i, vl, tl⟩ wl frl ⟨hfuel, hil, kl, hw⟩
    dsimp only at hfuel hil kl hw
    have hMl := kl.blk hM1 hMn
    refine seq_cut (σ := Unit) (fun _ => [(1, .pointer (some ⟨M, 0, none⟩)), (4, .pointer (some ⟨h, 0, none⟩)), (5, zi (i : Int))]) (fun _ w' => w' = wl ∧ i < c.fields.length) ?_ ?_
    rotate_left
    · intro K2 hK2
      refine Exists.intro Af (Exists.intro c.fields.length (Exists.intro cf (And.intro (cellB hMl rfl) ?_)))
      refine if_p (fun hlt => ?_) (fun hge => ?_)
      · replace hlt : (i : Int) < (c.fields.length : Int) := hlt
        exact hK2 () _ _ ⟨rfl, rfl, rfl, trivial⟩ ⟨rfl, by omega⟩
      · replace hge : ¬ (i : Int) < (c.fields.length : Int) := hge
        have e : i = c.fields.length := by omega
        subst e
        exact hK (vl, tl) _ _ ⟨rfl, rfl, trivial⟩ ⟨kl, hw.done⟩
    rintro _ wy fry ⟨hwy, hi'⟩
    obtain rfl := hwy.symm
    have hlt : (i : Int) < (c.fields.length : Int) := by omega
    obtain ⟨m, rfl⟩ : ∃ m', m = m' + 1 := ⟨m - 1, by omega⟩
    obtain ⟨_, _, he, _, gx⟩ := (kl.lrep fldOk (by decide) hf1).get fldOk (by decide)
    cases he
    obtain ⟨a, cs, ea, hx, hc⟩ := gx i hi'
    have hin := hff _ (List.getElem_mem hi')
    have hcs : csum cFld (c.fields.take i) + cFld c.fields[i] ≤ csum cFld c.fields := by
      have h1 := csum_le cFld c.fields (i + 1)
      rw [List.take_succ_eq_append_getElem hi', csum_snoc] at h1
      exact h1
    have hw1 := hw.1
    obtain ⟨y, hy⟩ : ∃ y, y = c.fields[i] := ⟨_, rfl⟩
    rw [← hy] at hx hin hcs
    have hx0 := hx
    obtain rfl := hx
    have h8 : cFld y = 8 := rfl
    refine seq_cut (σ := Value × WT) (fun _ => [(1, .pointer (some ⟨M, 0, none⟩)), (4, .pointer (some ⟨h, 0, none⟩)), (5, zi (i : Int))]) (fun s w' => Kr w1 base ⟨A, q, c.pool⟩ h v0 w' s.1 s.2 ∧ Wri (fldT c.pool) (cFld y) tl y s.2) ?_ ?_
    · rintro ⟨vn, tn⟩ wn frn ⟨kn, qn⟩
      dsimp only at kn qn
      have inc := incN hi' hnf
      exact ⟨m, (i + 1, vn, tn), by omega, ⟨rfl, rfl, inc, trivial⟩, by dsimp only; omega, by dsimp only; omega, kn, hw.step hi' (by rw [← hy]; exact qn)⟩
    intro K3 hK3
    refine block_ ?_
    obtain ⟨E, hE⟩ : ∃ E, E = wl.heap.size := ⟨_, rfl⟩
    refine seq_cut (σ := Unit) (fun _ => [(1, .pointer (some ⟨M, 0, none⟩)), (4, .pointer (some ⟨h, 0, none⟩)), (5, zi (i : Int)), (6, .pointer (some ⟨E, 0, none⟩))]) (fun _ w' => New wl w' ∧ w'.heap[E]? = some (.cells #[zi y.acc, strV y.name, strV y.typ] 49 (0, 0))) ?_ ?_
    rotate_left
    · intro K4 hK4
      refine Exists.intro Af (Exists.intro c.fields.length (Exists.intro cf (And.intro (cellB hMl rfl) ?_)))
      refine And.intro (by omega) (And.intro hlt ?_)
      refine some_at ea ?_
      refine loadN_row (vs := [zi y.acc, strV y.name, strV y.typ]) (fun j u hu => by rw [Int.toNat_natCast]; exact hc j u hu) rfl ?_
      refine And.intro rfl ?_
      refine storeNew (vs := [zi y.acc, strV y.name, strV y.typ]) (arr := #[zi 0, .string ⟨#[]⟩, .string ⟨#[]⟩]) rfl (fldOk.one hx0) ?_
      intro wn hbn nn sn
      rw [hE] at hK4
      exact hK4 () _ _ ⟨rfl, rfl, rfl, rfl, trivial⟩ ⟨nn, hbn⟩
    rintro _ wm frm ⟨nm, hEm⟩
    have km := kl.new nm
    have hEn : ¬ RHb h vl E := kl.ri.hi (by omega)
    have hEl : E < wm.heap.size := (Array.getElem?_eq_some_iff.1 hEm).1
    refine seq_cut (σ := Bool) (fun _ => [(1, .pointer (some ⟨M, 0, none⟩)), (4, .pointer (some ⟨h, 0, none⟩)), (5, zi (i : Int)), (6, .pointer (some ⟨E, 0, none⟩))]) (fun b w' => Kr wm base ⟨A, q, c.pool⟩ h vl w' vl (tl.1, tl.2 || !b) ∧ (b = true ↔ y.acc = 0 ∨ y.acc = 8)) ?_ ?_
    rotate_left
    · intro K4 hK4
      have fin : ∀ b : Bool, (b = true ↔ y.acc = 0 ∨ y.acc = 8) → ∀ K' : Value → World → Prop, (∀ w', Kr wm base ⟨A, q, c.pool⟩ h vl w' vl (tl.1, tl.2 || !b) → K' (.tuple #[]) w') → callQ Tryz.prog 73 [.pointer (some ⟨h, 0, none⟩), .bool b] wm K' := fun b hb K' hK' => by
        refine call_ (rmust_ok base ⟨A, q, c.pool⟩ h vl tl b wm km.ri) ?_
        rintro e wn ⟨rfl, kn⟩
        exact ⟨_, rfl, hK' wn kn⟩
      refine Exists.intro y.acc (And.intro (cellB hEm rfl) ?_)
      refine if_p (fun h0 => ?_) (fun h0 => ?_)
      · replace h0 : y.acc = 0 := h0
        have hbq : true = true ↔ y.acc = 0 ∨ y.acc = 8 := by simp only [true_iff]; omega
        exact fin true hbq _ fun w' k' => hK4 true _ _ ⟨rfl, rfl, rfl, rfl, trivial⟩ ⟨k', hbq⟩
      · replace h0 : ¬ y.acc = 0 := h0
        refine Exists.intro y.acc (And.intro (cellB hEm rfl) ?_)
        have hbq : decide (y.acc = 8) = true ↔ y.acc = 0 ∨ y.acc = 8 := by
          rw [decide_eq_true_eq]
          omega
        exact fin _ hbq _ fun w' k' => hK4 _ _ _ ⟨rfl, rfl, rfl, rfl, trivial⟩ ⟨k', hbq⟩
    rintro b wn frn ⟨kn, hb⟩
    have hEn2 := kn.blk hEm hEn
    obtain ⟨zz, hzz⟩ : ∃ zz, zz = (if 0 < y.acc then y.acc else 0) := ⟨_, rfl⟩
    have hz64 : -9223372036854775808 ≤ zz ∧ zz ≤ 9223372036854775807 := by
      unfold i64 at hin
      rw [hzz]
      split <;> omega
    have hzz2 : b = true → zz = y.acc := fun e => by
      have := hb.1 e
      rw [hzz]
      split <;> omega
    refine seq_cut (σ := Value × WT) (fun _ => [(1, .pointer (some ⟨M, 0, none⟩)), (4, .pointer (some ⟨h, 0, none⟩)), (5, zi (i : Int)), (6, .pointer (some ⟨E, 0, none⟩))]) (fun s w' => Kr wm base ⟨A, q, c.pool⟩ h vl w' s.1 s.2 ∧ Wri n2 2 (tl.1, tl.2 || !b) zz s.2) ?_ ?_
    rotate_left
    · intro K4 hK4
      refine Exists.intro y.acc (And.intro (cellB hEn2 rfl) ?_)
      have hcall := ruL_ok base ⟨A, q, c.pool⟩ h vl (tl.1, tl.2 || !b) 2 [zz] 1 wn kn.ri rfl (fun q hq => by rw [List.mem_singleton.1 hq]; exact hz64) (by simp; omega)
      rw [hzz] at hcall
      refine call_ hcall ?_
      rw [← hzz]
      rintro e wo ⟨rfl, vo, ko⟩
      refine ⟨_, rfl, ?_⟩
      exact hK4 (vo, _) _ _ ⟨rfl, rfl, rfl, rfl, trivial⟩ ⟨kn.then ko, Wri.n2⟩
    rintro ⟨vo, to⟩ wo fro ⟨ko, qo⟩
    dsimp only at ko qo
    have po := qo.1
    dsimp only at po
    refine seq_cut (σ := Value × WT) (fun _ => [(1, .pointer (some ⟨M, 0, none⟩)), (4, .pointer (some ⟨h, 0, none⟩)), (5, zi (i : Int)), (6, .pointer (some ⟨E, 0, none⟩))]) (fun s w' => Kr wm base ⟨A, q, c.pool⟩ h vl w' s.1 s.2 ∧ Wri (utfT c.pool) 2 to y.name s.2) ?_ ?_
    rotate_left
    · intro K4 hK4
      refine Exists.intro (⟨y.name.toArray⟩ : ByteArray) (And.intro (cellB (ko.blk hEm hEn) rfl) ?_)
      refine call_ (rwutf_ok base ⟨A, q, c.pool⟩ h vo to y.name wo ko.ri hO (by omega)) ?_
      rintro e wp ⟨rfl, vp, tp, kp, qp⟩
      refine ⟨_, rfl, ?_⟩
      exact hK4 (vp, tp) _ _ ⟨rfl, rfl, rfl, rfl, trivial⟩ ⟨ko.then kp, qp⟩
    rintro ⟨vp, tp⟩ wp frp ⟨kp, qp⟩
    dsimp only at kp qp
    have pp := qp.1
    refine seq_cut (σ := Value × WT) (fun _ => [(1, .pointer (some ⟨M, 0, none⟩)), (4, .pointer (some ⟨h, 0, none⟩)), (5, zi (i : Int))]) (fun s w' => Kr wm base ⟨A, q, c.pool⟩ h vl w' s.1 s.2 ∧ Wri (utfT c.pool) 2 tp y.typ s.2) ?_ ?_
    rotate_left
    · intro K4 hK4
      refine Exists.intro (⟨y.typ.toArray⟩ : ByteArray) (And.intro (cellB (kp.blk hEm hEn) rfl) ?_)
      refine call_ (rwutf_ok base ⟨A, q, c.pool⟩ h vp tp y.typ wp kp.ri hO (by omega)) ?_
      rintro e wq ⟨rfl, vq, tq, kq, qq⟩
      refine ⟨_, rfl, ?_⟩
      exact hK4 (vq, tq) _ _ ⟨rfl, rfl, rfl, trivial⟩ ⟨kp.then kq, qq⟩
    rintro ⟨vq, tq⟩ wq frq ⟨kq, qq⟩
    dsimp only at kq qq
    have pq := qq.1
    refine call_ (ruL_ok base ⟨A, q, c.pool⟩ h vq tq 2 [0] 1 wq kq.ri rfl (by simp) (by simp; omega)) ?_
    rintro e wr ⟨rfl, vr, kr⟩
    refine ⟨_, rfl, ?_⟩
    have qr : Wri n2 2 tq 0 (noteU tq 2 [0]) := Wri.n2
    have pr := qr.1
    refine hK3 (vr, noteU tq 2 [0]) _ _ ⟨rfl, rfl, rfl, trivial⟩ ⟨(km.then kq).then kr, ?_⟩
    refine Wri.by_or hb (fun e => ?_) (fun e => ⟨keep_bad qr (keep_bad qq (keep_bad qp (keep_bad qo (by dsimp only; rw [e]; simp)))), by dsimp only; omega⟩)
    have q := qo.seq (qp.seq (qq.seq qr))
    rw [hzz2 e] at q
    exact Wri.le q (by omega)
  rintro ⟨v9, t9⟩ w9 fr9 ⟨kk9, q9⟩
  dsimp only at kk9 q9
  have p9 := q9.1
  refine seq_cut (σ := Value × WT) (fun _ => [(1, .pointer (some ⟨M, 0, none⟩)), (4, .pointer (some ⟨h, 0, none⟩))]) (fun s w' => Kr w1 base ⟨A, q, c.pool⟩ h v0 w' s.1 s.2 ∧ Wri n2 2 (t9.1, t9.2 || !decide (c.methods.length ≤ 256)) (c.methods.length : Int) s.2) ?_ ?_
  rotate_left
  · intro K hK
    have hM9 := kk9.blk hM1 hMn
    refine Exists.intro Am (Exists.intro c.methods.length (Exists.intro cm (And.intro (cellB hM9 rfl) ?_)))
    refine call_ (ruL_ok base ⟨A, q, c.pool⟩ h v9 t9 2 [(c.methods.length : Int)] 1 w9 kk9.ri rfl (by simp; omega) (by simp; omega)) ?_
    rintro e wx ⟨rfl, vx, kx⟩
    refine ⟨_, rfl, ?_⟩
    refine hK (vx, _) _ _ ⟨rfl, rfl, trivial⟩ ⟨kk9.then kx, ?_⟩
    rw [decide_eq_true hme, Bool.not_true, Bool.or_false]
    exact Wri.n2
  rintro ⟨v9', t9'⟩ w9' fr9' ⟨kk9', wr9⟩
  dsimp only at kk9' wr9
  refine seq_cut (σ := Value × WT) (fun _ => [(1, .pointer (some ⟨M, 0, none⟩)), (4, .pointer (some ⟨h, 0, none⟩))]) (fun s w' => Kr w1 base ⟨A, q, c.pool⟩ h v0 w' s.1 s.2 ∧ Wri (mthsT c.pool) (2 + csum cMth c.methods) t9 c.methods s.2) ?_ ?_
  rotate_left
  · intro K hK
    refine seq_assign ?_
    refine den_loop (σ := Nat × Value × WT) (fun s => [(1, .pointer (some ⟨M, 0, none⟩)), (4, .pointer (some ⟨h, 0, none⟩)), (7, zi (s.1 : Int))]) (fun m s wl => c.methods.length ≤ m + s.1 ∧ s.1 ≤ c.methods.length ∧ Kr w1 base ⟨A, q, c.pool⟩ h v0 wl s.2.1 s.2.2 ∧ WLst (mthT c.pool) 256 cMth t9 c.methods s.1 s.2.2) c.methods.length (0, v9', t9') ⟨rfl, rfl, rfl, trivial⟩ ⟨by dsimp only; omega, Nat.zero_le _, kk9', WLst.start (by decide) wr9⟩ ?_
    rintro m ⟨i, vl, tl⟩ wl frl ⟨hfuel, hil, kl, hw⟩
    dsimp only at hfuel hil kl hw
    have hMl := kl.blk hM1 hMn
    refine seq_cut (σ := Unit) (fun _ => [(1, .pointer (some ⟨M, 0, none⟩)), (4, .pointer (some ⟨h, 0, none⟩)), (7, zi (i : Int))]) (fun _ w' => w' = wl ∧ i < c.methods.length) ?_ ?_
    rotate_left
    · intro K2 hK2
      refine Exists.intro Am (Exists.intro c.methods.length (Exists.intro cm (And.intro (cellB hMl rfl) ?_)))
      refine if_p (fun hlt => ?_) (fun hge => ?_)
      · replace hlt : (i : Int) < (c.methods.length : Int) := hlt
        exact hK2 () _ _ ⟨rfl, rfl, rfl, trivial⟩ ⟨rfl, by omega⟩
      · replace hge : ¬ (i : Int) < (c.methods.length : Int) := hge
        have e : i = c.methods.length := by omega
        subst e
        exact hK (vl, tl) _ _ ⟨rfl, rfl, trivial⟩ ⟨kl, hw.done⟩
    rintro _ wy fry ⟨hwy, hi'⟩
    obtain rfl := hwy.symm
    have hlt : (i : Int) < (c.methods.length : Int) := by omega
    obtain ⟨m, rfl⟩ : ∃ m', m = m' + 1 := ⟨m - 1, by omega⟩
    obtain ⟨_, _, he, _, gx⟩ := (kl.wide mthOk (by decide) hm1).get mthOk (by decide)
    cases he
    obtain ⟨a, cs, ea, hx, hc⟩ := gx i hi'
    have hin := hfm _ (List.getElem_mem hi')
    have hic := hi _ (List.getElem_mem hi')
    have hcs : csum cMth (c.methods.take i) + cMth c.methods[i] ≤ csum cMth c.methods := by
      have h1 := csum_le cMth c.methods (i + 1)
      rw [List.take_succ_eq_append_getElem hi', csum_snoc] at h1
      exact h1
    have hw1 := hw.1
    obtain ⟨y, hy⟩ : ∃ y, y = c.methods[i] := ⟨_, rfl⟩
    rw [← hy] at hx hin hic hcs
    have hx0 := hx
    obtain ⟨_, _, _, rfl, hy1, hy2, hy3⟩ := hx
    obtain ⟨Ab, cb, rfl, _⟩ := hy1.get u8Ok (by decide)
    obtain ⟨Ah, ch, rfl, _⟩ := hy2.get hndOk (by decide)
    obtain ⟨Am2, cm2, rfl, _⟩ := hy3.get mpOk (by decide)
    have hcm : cMth y = 14 + cCod y.code := rfl
    refine seq_cut (σ := Value × WT) (fun _ => [(1, .pointer (some ⟨M, 0, none⟩)), (4, .pointer (some ⟨h, 0, none⟩)), (7, zi (i : Int))]) (fun s w' => Kr w1 base ⟨A, q, c.pool⟩ h v0 w' s.1 s.2 ∧ Wri (mthT c.pool) (cMth y) tl y s.2) ?_ ?_
    · rintro ⟨vn, tn⟩ wn frn ⟨kn, qn⟩
      dsimp only at kn qn
      have inc := incN hi' hnm
      exact ⟨m, (i + 1, vn, tn), by omega, ⟨rfl, rfl, inc, trivial⟩, by dsimp only; omega, by dsimp only; omega, kn, hw.step hi' (by rw [← hy]; exact qn)⟩
    intro K3 hK3
    refine block_ ?_
    obtain ⟨E, hE⟩ : ∃ E, E = wl.heap.size := ⟨_, rfl⟩
    refine seq_cut (σ := Unit) (fun _ => [(1, .pointer (some ⟨M, 0, none⟩)), (4, .pointer (some ⟨h, 0, none⟩)), (7, zi (i : Int)), (8, .pointer (some ⟨E, 0, none⟩))]) (fun _ w' => Mm w1 base ⟨A, q, c.pool⟩ h v0 E y Ab cb Ah ch Am2 cm2 w' vl tl) ?_ ?_
    rotate_left
    · intro K4 hK4
      refine Exists.intro Am (Exists.intro c.methods.length (Exists.intro cm (And.intro (cellB hMl rfl) ?_)))
      refine And.intro (by omega) (And.intro hlt ?_)
      refine some_at ea ?_
      refine loadN_row (vs := (mthC y Ab cb Ah ch Am2 cm2).toList) (fun j u hu => by rw [Int.toNat_natCast]; exact hc j u hu) rfl ?_
      refine And.intro rfl ?_
      refine storeNew (vs := (mthC y Ab cb Ah ch Am2 cm2).toList) (arr := #[zi 0, .string ⟨#[]⟩, .string ⟨#[]⟩, zi 0, zi 0, .slice none 0 0, .slice none 0 0, .slice none 0 0]) rfl (mthOk.one hx0) ?_
      intro wn hbn nn sn
      rw [hE] at hK4
      have hn0 := nn.mod.mono (S' := fun q => RHb h v0 q ∨ w1.heap.size ≤ q) fun _ _ e => False.elim e
      exact hK4 () _ _ ⟨rfl, rfl, rfl, rfl, trivial⟩ ⟨kl.new nn, hbn, kl.ri.hi (Nat.le_refl _), LRep.mod u8Ok (by decide) hy1 hn0, LRep.mod hndOk (by decide) hy2 hn0, LRep.mod mpOk (by decide) hy3 hn0⟩
    rintro _ wm frm mm
    refine seq_cut (σ := Bool) (fun _ => [(1, .pointer (some ⟨M, 0, none⟩)), (4, .pointer (some ⟨h, 0, none⟩)), (7, zi (i : Int)), (8, .pointer (some ⟨E, 0, none⟩))]) (fun b w' => Mm w1 base ⟨A, q, c.pool⟩ h v0 E y Ab cb Ah ch Am2 cm2 w' vl (tl.1, tl.2 || !b) ∧ (b = true ↔ y.acc = 0 ∨ y.acc = 8 ∨ y.acc = 32 ∨ y.acc = 40)) ?_ ?_
    rotate_left
    · intro K4 hK4
      have fin : ∀ b : Bool, (b = true ↔ y.acc = 0 ∨ y.acc = 8 ∨ y.acc = 32 ∨ y.acc = 40) → ∀ K' : Value → World → Prop, (∀ w', Mm w1 base ⟨A, q, c.pool⟩ h v0 E y Ab cb Ah ch Am2 cm2 w' vl (tl.1, tl.2 || !b) → K' (.tuple #[]) w') → callQ Tryz.prog 73 [.pointer (some ⟨h, 0, none⟩), .bool b] wm K' := fun b hb K' hK' => by
        refine call_ (rmust_ok base ⟨A, q, c.pool⟩ h vl tl b wm mm.kr.ri) ?_
        rintro e wn ⟨rfl, kn⟩
        exact ⟨_, rfl, hK' wn (mm.act kn)⟩
      refine Exists.intro y.acc (And.intro (cellB mm.blk rfl) ?_)
      refine if_p (fun h0 => ?_) (fun h0 => ?_)
      · replace h0 : y.acc = 0 := h0
        have hbq : true = true ↔ y.acc = 0 ∨ y.acc = 8 ∨ y.acc = 32 ∨ y.acc = 40 := by simp only [true_iff]; omega
        exact fin true hbq _ fun w' k' => hK4 true _ _ ⟨rfl, rfl, rfl, rfl, trivial⟩ ⟨k', hbq⟩
      · replace h0 : ¬ y.acc = 0 := h0
        refine Exists.intro y.acc (And.intro (cellB mm.blk rfl) ?_)
        refine if_p (fun h1 => ?_) (fun h1 => ?_)
        · replace h1 : y.acc = 8 := h1
          have hbq : true = true ↔ y.acc = 0 ∨ y.acc = 8 ∨ y.acc = 32 ∨ y.acc = 40 := by simp only [true_iff]; omega
          exact fin true hbq _ fun w' k' => hK4 true _ _ ⟨rfl, rfl, rfl, rfl, trivial⟩ ⟨k', hbq⟩
        · replace h1 : ¬ y.acc = 8 := h1
          refine Exists.intro y.acc (And.intro (cellB mm.blk rfl) ?_)
          refine if_p (fun h2 => ?_) (fun h2 => ?_)
          · replace h2 : y.acc = 32 := h2
            have hbq : true = true ↔ y.acc = 0 ∨ y.acc = 8 ∨ y.acc = 32 ∨ y.acc = 40 := by simp only [true_iff]; omega
            exact fin true hbq _ fun w' k' => hK4 true _ _ ⟨rfl, rfl, rfl, rfl, trivial⟩ ⟨k', hbq⟩
          · replace h2 : ¬ y.acc = 32 := h2
            refine Exists.intro y.acc (And.intro (cellB mm.blk rfl) ?_)
            have hbq : decide (y.acc = 40) = true ↔ y.acc = 0 ∨ y.acc = 8 ∨ y.acc = 32 ∨ y.acc = 40 := by
              rw [decide_eq_true_eq]
              omega
            exact fin _ hbq _ fun w' k' => hK4 _ _ _ ⟨rfl, rfl, rfl, rfl, trivial⟩ ⟨k', hbq⟩
    rintro b wn frn ⟨mn, hb⟩
    obtain ⟨zz, hzz⟩ : ∃ zz, zz = (if 0 < y.acc then y.acc else 0) := ⟨_, rfl⟩
    have hz64 : -9223372036854775808 ≤ zz ∧ zz ≤ 9223372036854775807 := by
      unfold i64 at hin
      rw [hzz]
      split <;> omega
    have hzz2 : b = true → zz = y.acc := fun e => by
      have := hb.1 e
      rw [hzz]
      split <;> omega
    refine seq_cut (σ := Value × WT) (fun _ => [(1, .pointer (some ⟨M, 0, none⟩)), (4, .pointer (some ⟨h, 0, none⟩)), (7, zi (i : Int)), (8, .pointer (some ⟨E, 0, none⟩))]) (fun s w' => Mm w1 base ⟨A, q, c.pool⟩ h v0 E y Ab cb Ah ch Am2 cm2 w' s.1 s.2 ∧ Wri n2 2 (tl.1, tl.2 || !b) zz s.2) ?_ ?_
    rotate_left
    · intro K4 hK4
      refine Exists.intro y.acc (And.intro (cellB mn.blk rfl) ?_)
      have hcall := ruL_ok base ⟨A, q, c.pool⟩ h vl (tl.1, tl.2 || !b) 2 [zz] 1 wn mn.kr.ri rfl (fun q hq => by rw [List.mem_singleton.1 hq]; exact hz64) (by simp; omega)
      rw [hzz] at hcall
      refine call_ hcall ?_
      rw [← hzz]
      rintro e wo ⟨rfl, vo, ko⟩
      refine ⟨_, rfl, ?_⟩
      exact hK4 (vo, _) _ _ ⟨rfl, rfl, rfl, rfl, trivial⟩ ⟨mn.act ko, Wri.n2⟩
    rintro ⟨vo, to⟩ wo fro ⟨mo, qo⟩
    dsimp only at mo qo
    have po := qo.1
    dsimp only at po
    refine seq_cut (σ := Value × WT) (fun _ => [(1, .pointer (some ⟨M, 0, none⟩)), (4, .pointer (some ⟨h, 0, none⟩)), (7, zi (i : Int)), (8, .pointer (some ⟨E, 0, none⟩))]) (fun s w' => Mm w1 base ⟨A, q, c.pool⟩ h v0 E y Ab cb Ah ch Am2 cm2 w' s.1 s.2 ∧ Wri (utfT c.pool) 2 to y.name s.2) ?_ ?_
    rotate_left
    · intro K4 hK4
      refine Exists.intro (⟨y.name.toArray⟩ : ByteArray) (And.intro (cellB mo.blk rfl) ?_)
      refine call_ (rwutf_ok base ⟨A, q, c.pool⟩ h vo to y.name wo mo.kr.ri hO (by omega)) ?_
      rintro e wp ⟨rfl, vp, tp, kp, qp⟩
      refine ⟨_, rfl, ?_⟩
      exact hK4 (vp, tp) _ _ ⟨rfl, rfl, rfl, rfl, trivial⟩ ⟨mo.act kp, qp⟩
    rintro ⟨vp, tp⟩ wp frp ⟨mp, qp⟩
    dsimp only at mp qp
    have pp := qp.1
    refine seq_cut (σ := Value × WT) (fun _ => [(1, .pointer (some ⟨M, 0, none⟩)), (4, .pointer (some ⟨h, 0, none⟩)), (7, zi (i : Int)), (8, .pointer (some ⟨E, 0, none⟩))]) (fun s w' => Mm w1 base ⟨A, q, c.pool⟩ h v0 E y Ab cb Ah ch Am2 cm2 w' s.1 s.2 ∧ Wri (utfT c.pool) 2 tp y.typ s.2) ?_ ?_
    rotate_left
    · intro K4 hK4
      refine Exists.intro (⟨y.typ.toArray⟩ : ByteArray) (And.intro (cellB mp.blk rfl) ?_)
      refine call_ (rwutf_ok base ⟨A, q, c.pool⟩ h vp tp y.typ wp mp.kr.ri hO (by omega)) ?_
      rintro e wq ⟨rfl, vq, tq, kq, qq⟩
      refine ⟨_, rfl, ?_⟩
      exact hK4 (vq, tq) _ _ ⟨rfl, rfl, rfl, rfl, trivial⟩ ⟨mp.act kq, qq⟩
    rintro ⟨vq, tq⟩ wq frq ⟨mq, qq⟩
    dsimp only at mq qq
    have pq := qq.1
    refine seq_cut (σ := Value × WT) (fun _ => [(1, .pointer (some ⟨M, 0, none⟩)), (4, .pointer (some ⟨h, 0, none⟩)), (7, zi (i : Int)), (8, .pointer (some ⟨E, 0, none⟩))]) (fun s w' => Mm w1 base ⟨A, q, c.pool⟩ h v0 E y Ab cb Ah ch Am2 cm2 w' s.1 s.2 ∧ Wri n2 2 tq 1 s.2) ?_ ?_
    rotate_left
    · intro K4 hK4
      refine call_ (ruL_ok base ⟨A, q, c.pool⟩ h vq tq 2 [1] 1 wq mq.kr.ri rfl (by simp) (by simp; omega)) ?_
      rintro e wr ⟨rfl, vr, kr⟩
      refine ⟨_, rfl, ?_⟩
      exact hK4 (vr, _) _ _ ⟨rfl, rfl, rfl, rfl, trivial⟩ ⟨mq.act kr, Wri.n2⟩
    rintro ⟨vr, tr⟩ wr frr ⟨mr, qr⟩
    dsimp only at mr qr
    have pr := qr.1
    refine seq_cut (σ := Value × WT) (fun _ => [(1, .pointer (some ⟨M, 0, none⟩)), (4, .pointer (some ⟨h, 0, none⟩)), (7, zi (i : Int)), (8, .pointer (some ⟨E, 0, none⟩))]) (fun s w' => Mm w1 base ⟨A, q, c.pool⟩ h v0 E y Ab cb Ah ch Am2 cm2 w' s.1 s.2 ∧ Wri (utfT c.pool) 2 tr codeS s.2) ?_ ?_
    rotate_left
    · intro K4 hK4
      refine call_ (rwutf_ok base ⟨A, q, c.pool⟩ h vr tr codeS wr mr.kr.ri hO (by omega)) ?_
      rintro e ws ⟨rfl, vs, ts, ks, qs⟩
      refine ⟨_, rfl, ?_⟩
      exact hK4 (vs, ts) _ _ ⟨rfl, rfl, rfl, rfl, trivial⟩ ⟨mr.act ks, qs⟩
    rintro ⟨vs, ts⟩ ws frs ⟨ms, qs⟩
    dsimp only at ms qs
    have ps := qs.1
    -- its code
    have hMs := ms.kr.blk hM1 hMn
    obtain ⟨z, hz⟩ : ∃ z, z = ws.heap.size := ⟨_, rfl⟩
    refine seq_cut (σ := Unit) (fun _ => [(1, .pointer (some ⟨M, 0, none⟩)), (4, .pointer (some ⟨h, 0, none⟩)), (7, zi (i : Int)), (8, .pointer (some ⟨E, 0, none⟩)), (9, .pointer (some ⟨z, 0, none⟩))]) (fun _ w' => New ws w' ∧ Nest w1 base ⟨A, q, c.pool⟩ h v0 w' vs ts z (.slice none 0 0) ([], false)) ?_ ?_
    rotate_left
    · intro K4 hK4
      refine Exists.intro A (Exists.intro c.pool.length (Exists.intro q (And.intro (cellB hMs rfl) ?_)))
      have nn := New.alloc ws (.cells #[.slice A c.pool.length q, .slice none 0 0, .bool false] 135)
      have hbn := heap_alloc_new ws (.cells #[.slice A c.pool.length q, .slice none 0 0, .bool false] 135)
      have nest := Nest.start ms.kr hb1 nn rfl hbn
      rw [hz] at hK4
      exact hK4 () _ _ ⟨rfl, rfl, rfl, rfl, rfl, trivial⟩ ⟨nn, nest⟩
    rintro _ wt frt ⟨nt, nest⟩
    have hEt := nt.blk ms.blk
    have hcod : codR wt (RHb z (.slice none 0 0)) [zi y.code.stack, zi y.code.locals, .slice Ab y.code.bytes.length cb, .slice Ah y.code.hands.length ch, .slice Am2 y.code.maps.length cm2] y.code := by
      have hn0 := nt.mod.mono (S' := fun q => RHb h v0 q ∨ w1.heap.size ≤ q) fun _ _ e => False.elim e
      exact ⟨_, _, _, rfl, LRep.weak u8Ok (LRep.mod u8Ok (by decide) ms.l1 hn0) fun q _ e => .inr (nest.at_ q e), LRep.weak hndOk (LRep.mod hndOk (by decide) ms.l2 hn0) fun q _ e => .inr (nest.at_ q e), LRep.weak mpOk (LRep.mod mpOk (by decide) ms.l3 hn0) fun q _ e => .inr (nest.at_ q e)⟩
    refine seq_cut (σ := Value × WT) (fun _ => [(1, .pointer (some ⟨M, 0, none⟩)), (4, .pointer (some ⟨h, 0, none⟩)), (7, zi (i : Int)), (9, .pointer (some ⟨z, 0, none⟩))]) (fun s w' => Nest w1 base ⟨A, q, c.pool⟩ h v0 w' vs ts z s.1 s.2 ∧ Wri (codT c.pool) (cCod y.code) ([], false) y.code s.2) ?_ ?_
    rotate_left
    · intro K4 hK4
      refine loadN_row (vs := [zi y.code.stack, zi y.code.locals, .slice Ab y.code.bytes.length cb, .slice Ah y.code.hands.length ch, .slice Am2 y.code.maps.length cm2]) (fun j u hu => rowM hEt j u hu) rfl ?_
      refine call_ (refcode_ok base ⟨A, q, c.pool⟩ z (.slice none 0 0) ([], false) [zi y.code.stack, zi y.code.locals, .slice Ab y.code.bytes.length cb, .slice Ah y.code.hands.length ch, .slice Am2 y.code.maps.length cm2] y.code wt nest.inn hO hcod hic (by simp; omega)) ?_
      rintro e wu ⟨rfl, vu, tu, ku, qu⟩
      refine ⟨_, rfl, ?_⟩
      exact hK4 (vu, tu) _ _ ⟨rfl, rfl, rfl, rfl, trivial⟩ ⟨nest.act ku, qu⟩
    rintro ⟨vu, tu⟩ wu fru ⟨nu, qu⟩
    dsimp only at nu qu
    have pu := qu.1
    simp only [List.length_nil] at pu
    refine seq_cut (σ := Unit) (fun _ => [(1, .pointer (some ⟨M, 0, none⟩)), (4, .pointer (some ⟨h, 0, none⟩)), (7, zi (i : Int)), (9, .pointer (some ⟨z, 0, none⟩))]) (fun _ w' => Nest w1 base ⟨A, q, c.pool⟩ h v0 w' vs (ts.1, ts.2 || tu.2) z vu tu) ?_ ?_
    rotate_left
    · intro K4 hK4
      refine Exists.intro tu.2 (And.intro (cellB nu.inn.blk rfl) ?_)
      refine call_ (rmust_ok base ⟨A, q, c.pool⟩ h vs ts (!tu.2) wu nu.out.ri) ?_
      rintro e wc ⟨rfl, kc⟩
      refine ⟨_, rfl, ?_⟩
      rw [Bool.not_not] at kc
      exact hK4 () _ _ ⟨rfl, rfl, rfl, rfl, trivial⟩ (nu.must kc)
    rintro _ wc frc nc
    refine seq_cut (σ := Value) (fun _ => [(1, .pointer (some ⟨M, 0, none⟩)), (4, .pointer (some ⟨h, 0, none⟩)), (7, zi (i : Int)), (9, .pointer (some ⟨z, 0, none⟩))]) (fun v' w' => Nest w1 base ⟨A, q, c.pool⟩ h v0 w' v' (ts.1 ++ enc 4 (tu.1.length : Int), ts.2 || tu.2) z vu tu) ?_ ?_
    rotate_left
    · intro K4 hK4
      obtain ⟨A2, c2, rfl, _⟩ := own_slice nc.inn.own
      refine Exists.intro A2 (Exists.intro tu.1.length (Exists.intro c2 (And.intro (cellB nc.inn.blk rfl) ?_)))
      refine call_ (ruL_ok base ⟨A, q, c.pool⟩ h vs (ts.1, ts.2 || tu.2) 4 [(tu.1.length : Int)] 1 wc nc.out.ri rfl (by simp; omega) (by simp; omega)) ?_
      rintro e wd ⟨rfl, vd, kd⟩
      refine ⟨_, rfl, ?_⟩
      rw [noteU4 (by omega)] at kd
      exact hK4 vd _ _ ⟨rfl, rfl, rfl, rfl, trivial⟩ (nc.must kd)
    rintro vd wd frd nd0
    obtain ⟨td, htd⟩ : ∃ td, td = (ts.1 ++ enc 4 (tu.1.length : Int), ts.2 || tu.2) := ⟨_, rfl⟩
    rw [← htd] at nd0
    have hld : td.1.length = ts.1.length + 4 := by rw [htd]; simp only [List.length_append, enc_length]
    obtain ⟨A4, c4, rfl, _⟩ := own_slice nd0.out.ri.own
    obtain ⟨A2, c2, rfl, _⟩ := own_slice nd0.inn.own
    refine draw_ (w := wd) ok (.q 0 (.q 1 (.q 2 (.q 3 (.q 4 (.q 5 (.q 6 (.q 7 (.q 8 (.e 9 (.q 10 (.q 11 (.e 12 .done))))))))))))) [12] (fun w'' : World => w''.heap[h]? = some (.cells #[.slice A c.pool.length q, .slice A4 td.1.length c4, .bool td.2] 135 (0, 0)) ∧ w''.heap[z]? = some (.cells #[.slice A c.pool.length q, .slice A2 tu.1.length c2, .bool tu.2] 135 (0, 0))) (by kernel_rfl) (by kernel_rfl) (by kernel_rfl) (by kernel_rfl) (by kernel_rfl) ⟨(New.drew wd).blk nd0.out.ri.blk, (New.drew wd).blk nd0.inn.blk⟩ ?_
    refine Exists.intro A4 (Exists.intro td.1.length (Exists.intro c4 (And.intro (fun w'' hw => cellB hw.1 rfl) ?_)))
    refine Exists.intro A2 (Exists.intro tu.1.length (Exists.intro c2 (And.intro (fun w'' hw => cellB hw.2 rfl) ?_)))
    have nw := New.drew wd
    have nnd := nd0.new nw
    obtain ⟨_, _, he, _, _, row2, _⟩ := own_slice nnd.inn.own
    cases he
    refine eff_app rfl rfl (fun _ _ => rfl) ?_
    refine append2_ ok rfl rfl rfl rfl nnd.out.ri.own rfl rfl row2 (by rw [bvs_length]; exact (Nat.mul_one _).symm) (bvs_one _) (by decide) rfl (by show (td.1.length + tu.1.length) * 1 ≤ _; omega) (by omega) nnd.out.ri.bw ?_
    intro A7 c7 we own7 mod7 st7
    have hb7 := mod7.blk nnd.out.ri.blk (fun e => nnd.out.ri.off e.symm)
    have hz7 := mod7.blk nnd.inn.blk (fun e => nnd.sep z (.inr rfl) (.inl e))
    refine Exists.intro (fun w'' : World => w''.heap[h]? = some (.cells #[.slice A c.pool.length q, .slice A4 td.1.length c4, .bool td.2] 135 (0, 0)) ∧ w''.heap[z]? = some (.cells #[.slice A c.pool.length q, .slice A2 tu.1.length c2, .bool tu.2] 135 (0, 0))) ?_
    refine And.intro (fun _ h => h) ?_
    refine And.intro ⟨hb7, hz7⟩ ?_
    refine And.intro ⟨_, cellB hb7 rfl⟩ (And.intro (fzB hb7 _) (force_ ?_))
    refine stK hb7 (show (1 : Nat) < 3 by decide) ?_
    intro wf hb8 m8 s8
    have kf := (nd0.add nw mod7 own7 st7 m8 hb8).1
    have qt := Wri.part (t := ts) qu
    have et : (td.1 ++ tu.1, td.2) = (ts.1 ++ (enc 4 (tu.1.length : Int) ++ tu.1), ts.2 || tu.2) := by rw [htd]; dsimp only; rw [List.append_assoc]
    rw [← et] at qt
    have pt := qt.1
    refine hK3 (_, (td.1 ++ tu.1, td.2)) _ _ ⟨rfl, rfl, rfl, trivial⟩ ⟨kf, ?_⟩
    refine Wri.by_or hb (fun e => ?_) (fun e => ⟨keep_bad qt (keep_bad qs (keep_bad qr (keep_bad qq (keep_bad qp (keep_bad qo (by dsimp only; rw [e]; simp)))))), by dsimp only at pt ⊢; omega⟩)
    have q := qo.seq (qp.seq (qq.seq (qr.seq (qs.seq qt))))
    rw [hzz2 e] at q
    exact Wri.le q (by omega)
  rintro ⟨v10, t10⟩ w10 fr10 ⟨kk10, q10⟩
  dsimp only at kk10 q10
  have p10 := q10.1
  refine seq_cut (σ := Value × WT) (fun _ => [(4, .pointer (some ⟨h, 0, none⟩))]) (fun s w' => Kr w1 base ⟨A, q, c.pool⟩ h v0 w' s.1 s.2 ∧ Wri n2 2 t10 0 s.2) ?_ ?_
  rotate_left
  · intro K hK
    refine call_ (ruL_ok base ⟨A, q, c.pool⟩ h v10 t10 2 [0] 1 w10 kk10.ri rfl (by simp) (by simp; omega)) ?_
    rintro e w11 ⟨rfl, v11, k11⟩
    refine ⟨_, rfl, ?_⟩
    exact hK (v11, _) _ _ ⟨rfl, trivial⟩ ⟨kk10.then k11, Wri.n2⟩
  rintro ⟨v11, t11⟩ w11 fr11 ⟨kk11, q11⟩
  dsimp only at kk11 q11
  have p11 := q11.1
  have hfile := wri_file (Wri.by_ (q2.seq (Wri.assoc (q3.seq (Wri.dseq q4 (q5.seq (q6.seq (q7.seq (q8.seq (q9.seq (q10.seq q11)))))))))))
  have nw := fresh kk11
  refine seq_cut (σ := Unit) (fun _ => [(4, .pointer (some ⟨h, 0, none⟩))]) (fun _ w' => w' = w11 ∧ t11.2 = false) ?_ ?_
  rotate_left
  · intro K hK
    refine Exists.intro t11.2 (And.intro (cellB kk11.ri.blk rfl) ?_)
    refine if_ (fun hbad => ?_) (fun hbad => ?_)
    · exact pr_bad (hfile.1 hbad) nw
    · exact hK () _ _ ⟨rfl, trivial⟩ ⟨rfl, hbad⟩
  rintro _ wy fry ⟨hwy, hgood⟩
  obtain rfl := hwy.symm
  obtain ⟨Az, cz, rfl, h5, h6, rowz, _⟩ := own_slice kk11.ri.own
  refine seq_cut (σ := Unit) (fun _ => [(4, .pointer (some ⟨h, 0, none⟩))]) (fun _ w' => w' = w11 ∧ t11.1.length ≤ 32768) ?_ ?_
  rotate_left
  · intro K hK
    refine Exists.intro Az (Exists.intro t11.1.length (Exists.intro cz (And.intro (cellB kk11.ri.blk rfl) ?_)))
    refine if_p (fun hp => ?_) (fun hp => ?_)
    · replace hp : (32768 : Int) < (t11.1.length : Int) := hp
      exact pr_bad (hfile.2.1 hgood (by omega)) nw
    · replace hp : ¬ (32768 : Int) < (t11.1.length : Int) := hp
      exact hK () _ _ ⟨rfl, trivial⟩ ⟨rfl, by omega⟩
  rintro _ wz frz ⟨hwz, hle⟩
  obtain rfl := hwz.symm
  obtain ⟨he, hbs⟩ := hfile.2.2 hgood hle
  refine Exists.intro Az (Exists.intro t11.1.length (Exists.intro cz (And.intro (cellB kk11.ri.blk rfl) ?_)))
  rw [← hbs] at rowz h5
  exact ⟨Az, cz, by rw [he, hbs]; rfl, rowz, h5, h6, nw⟩

end Go.Proofs.YtdcaafldnbcdkaaGreatDoor.Class

/-! ### KRead1 -/
namespace Go.Proofs.YtdcaafldnbcdkaaGreatDoor.Class
open Go Go.Proofs.YtdcaafldnbcdkaaGreatDoor Go.Proofs.YtdcaafldnbcdkaaGreatDoor.Eng Go.Proofs Go.Proofs.YtdcaafldnbcdkaaGreatDoor.Word Go.Proofs.YtdcaafldnbcdkaaGreatDoor.Fmt
open Go.Proofs.YtdcaafldnbcdkaaGreatDoor.Pool (rd_modN rd_low RS Ent at_ poolF strV entC entV EntOk Pl OkPool both own_low tagAt)
set_option maxRecDepth 10000

/-- Blocks that a reader of classes looks at. -/
def Iin (h g : Nat) (A : Option Addr) (bs : List UInt8) (p : Po) (b : Nat) : Prop := b = h ∨ b = g ∨ (∃ a, A = some a ∧ bs ≠ [] ∧ b = a.block) ∨ (∃ a, p.A = some a ∧ p.l ≠ [] ∧ b = a.block) ∨ b = 0
/-- A reader of classes in memory. -/
structure Ir (w : World) (h g : Nat) (A : Option Addr) (c : Nat) (bs : List UInt8) (p : Po) (s : RSt) : Prop where
  blk : w.heap[h]? = some (.cells #[.pointer (some ⟨g, 0, none⟩), p.v, .bool s.2] 40 (0, 0))
  rd : Word.Rd w g A c bs s.1
  ne : h ≠ g
  off : ∀ a, A = some a → bs ≠ [] → a.block ≠ h
  pl : Pl w p.A p.l.length p.l
  tbl : Kt w
  pd : ∀ b, (∃ a, p.A = some a ∧ p.l ≠ [] ∧ b = a.block) ∨ b = 0 → b ≠ h ∧ b ≠ g
section
variable {w w' w'' : World} {h g : Nat} {A : Option Addr} {c : Nat} {bs : List UInt8} {p : Po} {s s' : RSt}
theorem Ir.modN {S : Nat → Prop} (q : Ir w h g A c bs p s) (k : Mod S w w') (hS : ∀ b, Iin h g A bs p b → ¬ S b) : Ir w' h g A c bs p s :=
  ⟨k.blk q.blk (hS _ (.inl rfl)), rd_modN q.rd k (hS _ (.inr (.inl rfl))) (fun a ha hn => hS _ (.inr (.inr (.inl ⟨a, ha, hn, rfl⟩)))), q.ne, q.off, q.pl.mod k (fun a ha hn => hS _ (.inr (.inr (.inr (.inl ⟨a, ha, hn, rfl⟩))))), fun k' h0 h5 => k.cell (q.tbl k' h0 h5) (hS _ (.inr (.inr (.inr (.inr rfl))))), q.pd⟩
theorem Ir.new (q : Ir w h g A c bs p s) (k : New w w') : Ir w' h g A c bs p s := q.modN k fun _ _ e => e
theorem Ir.lt (q : Ir w h g A c bs p s) {b : Nat} (hb : Iin h g A bs p b) : b < w.heap.size := by
  rcases hb with rfl | rfl | ⟨a, ha, hn, rfl⟩ | ⟨a, ha, hn, rfl⟩ | rfl
  · exact (Array.getElem?_eq_some_iff.1 q.blk).1
  · exact q.rd.lt
  · exact rd_low q.rd a ha hn
  · have hr := row_of_rows2 q.pl.row
    refine hr.lt (fun e => hn ?_) ha
    have := congrArg List.length e
    cases hl : p.l with
    | nil => rfl
    | cons x r =>
      rw [hl] at this
      simp [entC] at this
  · exact World.block_lt_of_cell? w _ (q.tbl 0 (by decide) (by decide))
theorem Ir.set (q : Ir w h g A c bs p s) (m : Mod (fun b => b = h) w w') {b : Bool} (hb : w'.heap[h]? = some (.cells #[.pointer (some ⟨g, 0, none⟩), p.v, .bool b] 40 (0, 0))) : Ir w' h g A c bs p (s.1, b) :=
  ⟨hb, rd_modN q.rd m (fun e => q.ne e.symm) (fun a ha hn e => q.off a ha hn e), q.ne, q.off, q.pl.mod m (fun a ha hn e => (q.pd _ (.inl ⟨a, ha, hn, rfl⟩)).1 e), fun k' h0 h5 => m.cell (q.tbl k' h0 h5) (fun e => (q.pd _ (.inr rfl)).1 e), q.pd⟩
/-- A new block is none of the reader's. -/
theorem Ir.loc {S : Nat → Prop} (q : Ir w h g A c bs p s) (q' : Ir w' h g A c bs p s') (m : Mod S w' w'') (hS : ∀ b, S b → w.heap.size ≤ b) : Ir w'' h g A c bs p s' :=
  q'.modN m fun b hb e => by
    have h1 := q.lt hb
    have h2 := hS b e
    omega
end
theorem get_nat (bs : List UInt8) (i k : Nat) : 0 ≤ (Word.get false bs i (k : Int)).1 ∧ (Word.get false bs i (k : Int)).1 < 256 ^ k := by
  have hpos : (0 : Int) < 256 ^ k := Int.pow_pos (by decide)
  unfold Word.get
  have hl := be_lt ((bs.drop i).take k)
  have hlen : ((bs.drop i).take k).length ≤ k := by rw [List.length_take]; omega
  have hp : (256 : Nat) ^ ((bs.drop i).take k).length ≤ 256 ^ k := Nat.pow_le_pow_right (by decide) hlen
  rw [Int.toNat_natCast]
  generalize be ((bs.drop i).take k) = v at hl
  have hv : v < 256 ^ k := Nat.lt_of_lt_of_le hl hp
  have hv2 : (v : Int) < 256 ^ k := by exact_mod_cast hv
  split
  · split
    · exact ⟨by simp, hpos⟩
    · rw [if_neg (by decide)]
      split
      · exact ⟨Int.natCast_nonneg _, hv2⟩
      · exact ⟨by simp, hpos⟩
  · exact ⟨by simp, hpos⟩
theorem get_on (bs : List UInt8) (i k : Nat) (hk : wide (k : Int) = true) (hi : i ≤ bs.length) : i < (Word.get false bs i (k : Int)).2.2 ∨ (!decide ((Word.get false bs i (k : Int)).2.1 = 0)) = true := by
  rcases get_num k false hk bs i hi with ⟨v, h1, h2, h3⟩ | ⟨h1, e, he, h2⟩
  · rw [h2]
    left
    have := wide4 hk
    rw [Int.toNat_natCast] at this
    show i < i + k
    omega
  · rw [h2]
    right
    rw [decide_eq_false he]
    rfl
/-- The next number. -/
theorem u_ok (h g : Nat) (A : Option Addr) (c : Nat) (bs : List UInt8) (p : Po) (s : RSt) (k : Nat) (hk : wide (k : Int) = true) (w : World) (q : Ir w h g A c bs p s) :
    Calls Tryz.prog 13 #[.pointer (some ⟨h, 0, none⟩), .int .i64 (k : Int)] w fun e w' => ∃ n s', e = .returned (zi n) ∧ Rd (tF (Fmt.num k false hk)) bs s n s' ∧ (0 ≤ n ∧ n < 256 ^ k) ∧ On s s' ∧ Ir w' h g A c bs p s' ∧ Mod (RS h g) w w' := by
  obtain ⟨i, b⟩ := s
  have hat := q.rd.at_
  refine enter ok Tryz.func13 rfl rfl rfl ?_
  refine seq_assign ?_
  refine Exists.intro b (And.intro (cellB q.blk rfl) ?_)
  refine if_ (fun hne => ?_) (fun h0 => ?_)
  · subst hne
    exact ⟨0, (i, true), rfl, Rd.bad rfl hat 0, ⟨by decide, Int.pow_pos (by decide)⟩, ⟨Nat.le_refl _, .inr rfl, fun h => h⟩, q, (New.refl w).mod⟩
  subst h0
  refine skip_ (thenF_ ?_)
  refine seq_cut (σ := Int × Int) (fun t => [(0, .pointer (some ⟨h, 0, none⟩)), (5, zi t.1), (6, zi t.2)]) (fun t w' => t.1 = (Word.get false bs i (k : Int)).1 ∧ t.2 = (Word.get false bs i (k : Int)).2.1 ∧ Word.Rd w' g A c bs (Word.get false bs i (k : Int)).2.2 ∧ Mod (fun b => b = g) w w') ?_ ?_
  rotate_left
  · intro K hK
    refine Exists.intro (some ⟨g, 0, none⟩) (And.intro (cellB q.blk rfl) ?_)
    refine call_ (U_ok g A c bs i k w q.rd) ?_
    rintro e w4 ⟨rfl, rd4, m4⟩
    refine ⟨_, rfl, ?_⟩
    exact hK ((Word.get false bs i (k : Int)).1, (Word.get false bs i (k : Int)).2.1) _ _ ⟨rfl, rfl, rfl, trivial⟩ ⟨rfl, rfl, rd4, m4⟩
  rintro ⟨n, er⟩ w4 fr4 ⟨hn, her, rd4, m4⟩
  dsimp only at hn her
  have hb4 := m4.blk q.blk q.ne
  have r1 := Rd.num hk i hat
  have r2 := get_nat bs i k
  have r3 := get_on bs i k hk hat
  rw [← hn, ← her] at r1
  rw [← hn] at r2
  rw [← her] at r3
  refine And.intro ⟨_, cellB hb4 rfl⟩ (And.intro (fzB hb4 _) (force_ ?_))
  refine stK hb4 (show (2 : Nat) < 3 by decide) ?_
  intro w5 hb5 m5 s5
  refine ⟨n, ((Word.get false bs i (k : Int)).2.2, !decide (er = 0)), rfl, r1, r2, ⟨r1.1, r3, fun h => (by cases h)⟩, ⟨hb5, rd_modN rd4 m5 (fun e => q.ne e.symm) (fun a ha hb e => q.off a ha hb e), q.ne, q.off, ?_, ?_, q.pd⟩, both (m4.mono fun _ _ e => .inl e) (m5.mono fun _ _ e => .inr e)⟩
  · exact (q.pl.mod m4 (fun a ha hn e => (q.pd _ (.inl ⟨a, ha, hn, rfl⟩)).2 e)).mod m5 (fun a ha hn e => (q.pd _ (.inl ⟨a, ha, hn, rfl⟩)).1 e)
  · exact fun k' h0 h5 => m5.cell (m4.cell (q.tbl k' h0 h5) (fun e => (q.pd _ (.inr rfl)).2 e)) (fun e => (q.pd _ (.inr rfl)).1 e)
/-- The text of an entry. -/
def ofT (l : List Ent) (i tag : Int) : List UInt8 := if i < (l.length : Int) ∧ (at_ l i).tag = tag then (if tag = 7 then (at_ l (at_ l i).a).text else (at_ l i).text) else []
def ofB (l : List Ent) (i tag : Int) : Bool := !decide (i < (l.length : Int) ∧ (at_ l i).tag = tag)
theorem of_ok (h g : Nat) (A : Option Addr) (c : Nat) (bs : List UInt8) (p : Po) (s : RSt) (i tag : Int) (w : World) (q : Ir w h g A c bs p s) (hO : OkPool p.l) (hi : 0 ≤ i) (ht : tag = 1 ∨ tag = 7) :
    Calls Tryz.prog 14 #[.pointer (some ⟨h, 0, none⟩), zi i, zi tag] w fun e w' => e = .returned (strV (ofT p.l i tag)) ∧ Ir w' h g A c bs p (s.1, s.2 || ofB p.l i tag) ∧ Mod (RS h g) w w' := by
  refine enter ok Tryz.func14 rfl rfl rfl ?_
  refine seq_assign ?_
  have bad : ¬ (i < (p.l.length : Int) ∧ (at_ p.l i).tag = tag) → ∀ {w' : World}, Ir w' h g A c bs p (s.1, true) → Mod (RS h g) w w' → ∃ K', K' = (Ending.returned (strV []) = .returned (strV (ofT p.l i tag)) ∧ Ir w' h g A c bs p (s.1, s.2 || ofB p.l i tag) ∧ Mod (RS h g) w w') ∧ K' := fun hn w' q' m => by
    refine ⟨_, rfl, ?_⟩
    unfold ofT ofB
    rw [if_neg hn, decide_eq_false hn]
    refine ⟨rfl, ?_, m⟩
    cases hs : s.2 <;> exact q'
  refine seq_cut (σ := Unit) (fun _ => [(0, .pointer (some ⟨h, 0, none⟩)), (1, zi i), (2, zi tag)]) (fun _ w' => w' = w ∧ i < (p.l.length : Int) ∧ (at_ p.l i).tag = tag) ?_ ?_
  rotate_left
  · intro K hK
    refine Exists.intro p.A (Exists.intro p.l.length (Exists.intro p.c (And.intro (cellB q.blk rfl) ?_)))
    refine if_p (fun hge => ?_) (fun hlt => ?_)
    · replace hge : (p.l.length : Int) ≤ i := hge
      have hb := q.blk
      refine And.intro ⟨_, cellB hb rfl⟩ (And.intro (fzB hb _) (force_ ?_))
      refine stK hb (show (2 : Nat) < 3 by decide) ?_
      intro w1 hb1 m1 s1
      obtain ⟨_, rfl, hres⟩ := bad (fun e => by omega) (q.set m1 hb1) (m1.mono fun _ _ e => .inr e)
      exact hres
    · replace hlt : ¬ (p.l.length : Int) ≤ i := hlt
      obtain ⟨a, ea, hok, hc⟩ := q.pl.at_ (i := i.toNat) (by omega)
      have e1 : at_ p.l ((i.toNat : Nat) : Int) = at_ p.l i := by rw [Int.toNat_of_nonneg hi]
      rw [e1] at hc
      refine Exists.intro p.A (Exists.intro p.l.length (Exists.intro p.c (And.intro (cellB q.blk rfl) ?_)))
      refine And.intro hi (And.intro (by omega) ?_)
      refine some_at ea ?_
      refine Exists.intro (at_ p.l i).tag (And.intro (by have := hc 0 _ rfl; rw [add_zero_] at this ⊢; exact this) ?_)
      refine if_n (fun hne => ?_) (fun heq => ?_)
      · have hb := q.blk
        refine And.intro ⟨_, cellB hb rfl⟩ (And.intro (fzB hb _) (force_ ?_))
        refine stK hb (show (2 : Nat) < 3 by decide) ?_
        intro w1 hb1 m1 s1
        obtain ⟨_, rfl, hres⟩ := bad (fun e => hne e.2) (q.set m1 hb1) (m1.mono fun _ _ e => .inr e)
        exact hres
      · exact hK () _ _ ⟨rfl, rfl, rfl, trivial⟩ ⟨rfl, by omega, heq⟩
  rintro _ wy fry ⟨hwy, hlt, htag⟩
  obtain rfl := hwy.symm
  have hB : ofB p.l i tag = false := by unfold ofB; rw [decide_eq_true ⟨hlt, htag⟩]; rfl
  have hT : ofT p.l i tag = if tag = 7 then (at_ p.l (at_ p.l i).a).text else (at_ p.l i).text := if_pos ⟨hlt, htag⟩
  rw [hB, hT, Bool.or_false]
  have fin : ∀ j : Int, 0 ≤ j → j < (p.l.length : Int) → ∃ a, p.A = some a ∧ ∀ k u, (entC (at_ p.l j))[k]? = some u → w.cell? ((a.add (j.toNat * 5)).add k) = some u := fun j h0 h1 => by
    obtain ⟨a, ea, hok, hc⟩ := q.pl.at_ (i := j.toNat) (by omega)
    have e1 : at_ p.l ((j.toNat : Nat) : Int) = at_ p.l j := by rw [Int.toNat_of_nonneg h0]
    rw [e1] at hc
    exact ⟨a, ea, hc⟩
  obtain ⟨a1, ea1, hc1⟩ := fin i hi hlt
  rcases ht with rfl | rfl
  · rw [if_neg (by decide)]
    refine Exists.intro p.A (Exists.intro p.l.length (Exists.intro p.c (And.intro (cellB q.blk rfl) ?_)))
    refine And.intro hi (And.intro hlt ?_)
    refine some_at ea1 ?_
    refine Exists.intro (⟨(at_ p.l i).text.toArray⟩ : ByteArray) (And.intro (hc1 1 _ rfl) ?_)
    exact ⟨rfl, q, (New.refl w).mod⟩
  · rw [if_pos rfl]
    have hin := class_in hO i.toNat (by omega) (by
      have e := Pool.at_lt (l := p.l) (i := i.toNat) (by omega)
      rw [Int.toNat_of_nonneg hi] at e
      rw [← e]
      exact htag)
    have e2 : p.l[i.toNat]'(by omega) = at_ p.l i := by
      have e := Pool.at_lt (l := p.l) (i := i.toNat) (by omega)
      rw [Int.toNat_of_nonneg hi] at e
      exact e.symm
    rw [e2] at hin
    obtain ⟨a2, ea2, hc2⟩ := fin (at_ p.l i).a hin.1 hin.2
    refine Exists.intro p.A (Exists.intro p.l.length (Exists.intro p.c (And.intro (cellB q.blk rfl) ?_)))
    refine And.intro hi (And.intro hlt ?_)
    refine some_at ea1 ?_
    refine Exists.intro (at_ p.l i).a (And.intro (hc1 3 _ rfl) ?_)
    refine Exists.intro p.A (Exists.intro p.l.length (Exists.intro p.c (And.intro (cellB q.blk rfl) ?_)))
    refine And.intro hin.1 (And.intro hin.2 ?_)
    refine some_at ea2 ?_
    refine Exists.intro (⟨(at_ p.l (at_ p.l i).a).text.toArray⟩ : ByteArray) (And.intro (hc2 1 _ rfl) ?_)
    exact ⟨rfl, q, (New.refl w).mod⟩
theorem rd_utf {bs : List UInt8} {s s1 : RSt} {l : List Ent} {n : Int} (h : Rd Class.n2 bs s n s1) : Rd (utfT l) bs s (ofT l n 1) (s1.1, s1.2 || ofB l n 1) := by
  refine Rd.ref h fun t h0 h1 hp => ?_
  simp only [utfP, Bool.and_eq_true, decide_eq_true_eq] at hp
  have hc : n < (l.length : Int) ∧ (at_ l n).tag = 1 := ⟨by omega, hp.1⟩
  unfold ofT ofB
  rw [if_pos hc, decide_eq_true hc, if_neg (by decide)]
  exact ⟨hp.2, by simp⟩
theorem rd_cls {bs : List UInt8} {s s1 : RSt} {l : List Ent} {n : Int} (h : Rd Class.n2 bs s n s1) : Rd (clsT l) bs s (ofT l n 7) (s1.1, s1.2 || ofB l n 7) := by
  refine Rd.ref h fun t h0 h1 hp => ?_
  simp only [clsP, Bool.and_eq_true, decide_eq_true_eq] at hp
  have hc : n < (l.length : Int) ∧ (at_ l n).tag = 7 := ⟨by omega, hp.1⟩
  unfold ofT ofB
  rw [if_pos hc, decide_eq_true hc, if_pos rfl]
  exact ⟨hp.2, by simp⟩
theorem rtext_ok (h g : Nat) (A : Option Addr) (c : Nat) (bs : List UInt8) (p : Po) (s : RSt) (w : World) (q : Ir w h g A c bs p s) (hO : OkPool p.l) :
    Calls Tryz.prog 17 #[.pointer (some ⟨h, 0, none⟩)] w fun e w' => ∃ z s', e = .returned (strV z) ∧ Rd (utfT p.l) bs s z s' ∧ On s s' ∧ Ir w' h g A c bs p s' ∧ Mod (RS h g) w w' := by
  refine enter ok Tryz.func17 rfl rfl rfl ?_
  refine seq_assign ?_
  refine call_ (u_ok h g A c bs p s 2 Pool.w2 w q) ?_
  rintro e w1 ⟨n, s1, rfl, r1, hb, o1, q1, m1⟩
  refine ⟨_, rfl, ?_⟩
  refine call_ (of_ok h g A c bs p s1 n 1 w1 q1 hO hb.1 (.inl rfl)) ?_
  rintro e w2 ⟨rfl, q2, m2⟩
  refine ⟨_, rfl, ?_⟩
  exact ⟨_, _, rfl, rd_utf r1, o1.or _, q2, both m1 m2⟩

end Go.Proofs.YtdcaafldnbcdkaaGreatDoor.Class
