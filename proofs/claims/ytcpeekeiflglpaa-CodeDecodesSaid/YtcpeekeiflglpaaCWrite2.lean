/- The package code, walked: cases written. Printed by genwrite2.py. -/
import Derived.Test.YtcpeekeiflglpaaCWrite1
namespace Go.Proofs.Ytcpeekeiflglpaa.Code
open Go Go.Proofs.Ytcpeekeiflglpaa Go.Proofs.Ytcpeekeiflglpaa.Eng Go.Proofs Go.Proofs.Ytcpeekeiflglpaa.Word
open Go.Proofs.Ytcpeekeiflglpaa.Pool (both own_low)
set_option maxRecDepth 10000

theorem op_makeSlice {P : Program} {T : Tab} {F : FuncId → Bool} {o : Oper} {fr : Fr} {w : World} {K : Fr → World → Prop} {t : TypeId} {l c : Operand} (ho : o.op = .makeSlice t l c) (h : raw P o fr w K) : evOp P T F o fr w K := by
  unfold evOp evPure
  simp only [ho]
  exact h
theorem wcaseS_eq (srch : Bool) (p : Int) (t : WT) (c : Cs) : wcaseS srch p t c = putS (placeS (if srch = true then putS t 4 true [c.key] else t) p c.to).2 4 true [(placeS (if srch = true then putS t 4 true [c.key] else t) p c.to).1] := rfl
theorem zeros_row {w : World} {g n : Nat} {arr : Array Value} {t : TypeId} {fz : Nat × Nat} (hb : w.heap[g]? = some (.cells arr t fz)) (h : ∀ j, j < n → arr[j]? = some (.int .u8 0)) : Row w (some ⟨g, 0, none⟩) (bvs (List.replicate n 0)) := by
  intro j u hu
  refine ⟨_, rfl, ?_⟩
  have hj : j < n := by
    have := (List.getElem?_eq_some_iff.1 hu).1
    simpa [bvs] using this
  have hu' : u = .int .u8 0 := by
    have h1 := (List.getElem?_eq_some_iff.1 hu).2
    simp [bvs, bv] at h1
    exact h1.symm
  rw [hu']
  exact cellB hb (h j hj)
theorem wcases_ok (base h g : Nat) (v : Value) (t : WT) (x : Ins) (vc : Value) (f : Int) (srch : Bool) (w : World) (hf : f = 8 ∧ srch = false ∨ f = 9 ∧ srch = true) (c : Cw w base h g v t) (hv : CsV w vc x.cs) (ho : Off (WH h g v) vc)
    (hp : 0 ≤ x.p ∧ x.p ≤ 2000000000) (hm : t.1.length ≤ 900000000) (hb : base ≤ w.heap.size) :
    Calls Try.prog 76 #[.pointer (some ⟨h, 0, none⟩), .agg (insC x vc).toArray, .int .i64 f] w fun e w' => e = .returned (.tuple #[]) ∧ ∃ v', Ck w base h g v w' v' (wcasesS srch x t) := by
  refine enter ok Try.func76 rfl rfl rfl ?_
  have n0 := New.alloc w (.cells (insC x vc).toArray 62)
  have hI0 := heap_alloc_new w (.cells (insC x vc).toArray 62)
  obtain ⟨hh, hg⟩ := c.lt
  have hvo := fun b (e : v.ownBlock = some b) => c.wr.own.lt b e
  have hIW : ¬ WH h g v w.heap.size := by
    rintro ((e | e) | e)
    · omega
    · have := (hvo _ e.symm).2
      omega
    · omega
  refine seq_cut (σ := Unit) (fun _ => [(0, .pointer (some ⟨h, 0, none⟩)), (2, .int .i64 f), (4, .pointer (some ⟨w.heap.size, 0, none⟩))]) (fun _ w' => New w w' ∧ w'.heap[w.heap.size]? = some (.cells (insC x vc).toArray 62 (0, 0))) ?_ ?_
  rotate_left
  · intro K hK
    exact hK () _ _ ⟨rfl, rfl, rfl, trivial⟩ ⟨n0, hI0⟩
  rintro _ w1 fr1 ⟨n1, hI1⟩
  clear n0 hI0
  have c1 := c.new n1
  have hb1 := Nat.le_trans hb n1.size
  have hv1 := hv.new n1
  let CC : World → Prop := fun w' => w'.heap[w.heap.size]? = some (.cells (insC x vc).toArray 62 (0, 0)) ∧ ∃ b, w'.heap[h]? = some (.cells #[.pointer (some ⟨g, 0, none⟩), .bool b] 97 (0, 0))
  have ccOf : ∀ {w' : World} {v' : Value} {t' : WT}, Ck w1 base h g v w' v' t' → CC w' := fun {w' v' t'} k => ⟨k.mod.blk hI1 hIW, t'.2, k.cw.blk⟩
  have done : ∀ {w' : World} {v' : Value} {t' : WT}, Ck w1 base h g v w' v' t' → Ck w base h g v w' v' t' := fun {w' v' t'} k => ((Ck.refl c).new n1).then k
  refine seq_cut (σ := Unit) (fun _ => [(0, .pointer (some ⟨h, 0, none⟩)), (2, .int .i64 f), (4, .pointer (some ⟨w.heap.size, 0, none⟩)), (6, .int .i64 (x.cs.length : Int))]) (fun _ w' => w' = w1) ?_ ?_
  rotate_left
  · intro K hK
    obtain ⟨⟨A, ca, ev, _⟩, _⟩ := hv
    refine Exists.intro A (Exists.intro x.cs.length (Exists.intro ca (And.intro (cellB hI1 (by rw [ev]; rfl)) ?_)))
    exact hK () _ _ ⟨rfl, rfl, rfl, rfl, trivial⟩ rfl
  rintro _ w1' fr2 rfl
  unfold wcasesS
  refine seq_cut (σ := Unit) (fun _ => [(0, .pointer (some ⟨h, 0, none⟩)), (2, .int .i64 f), (4, .pointer (some ⟨w.heap.size, 0, none⟩)), (6, .int .i64 (x.cs.length : Int))]) (fun _ w' => w' = w1' ∧ ¬ (256 < x.cs.length ∨ ¬ x.b = IntKind.i64.wrap (IntKind.i32.wrap x.b))) ?_ ?_
  rotate_left
  · intro K hK
    have hbh := c1.blk
    refine if_p (fun h1 => ?_) (fun h1 => ?_)
    · replace h1 : (256 : Int) < (x.cs.length : Int) := h1
      refine And.intro ⟨_, cellB hbh rfl⟩ (And.intro (fzB hbh _) (force_ ?_))
      refine stK hbh (show (1 : Nat) < 2 by decide) ?_
      intro w2 hb2 m2 s2
      rw [if_pos (.inl (by omega))]
      exact ⟨rfl, v, done (c1.set m2 (b := true) hb2)⟩
    · replace h1 : ¬ (256 : Int) < (x.cs.length : Int) := h1
      refine Exists.intro x.b (And.intro (cellB hI1 rfl) ?_)
      refine Exists.intro x.b (And.intro (cellB hI1 rfl) ?_)
      refine if_n (fun h2 => ?_) (fun h2 => ?_)
      · replace h2 : ¬ x.b = IntKind.i64.wrap (IntKind.i32.wrap x.b) := h2
        refine And.intro ⟨_, cellB hbh rfl⟩ (And.intro (fzB hbh _) (force_ ?_))
        refine stK hbh (show (1 : Nat) < 2 by decide) ?_
        intro w2 hb2 m2 s2
        rw [if_pos (.inr h2)]
        exact ⟨rfl, v, done (c1.set m2 (b := true) hb2)⟩
      · replace h2 : x.b = IntKind.i64.wrap (IntKind.i32.wrap x.b) := h2
        exact hK () _ _ ⟨rfl, rfl, rfl, rfl, trivial⟩ ⟨rfl, fun hc => hc.elim (fun hc => by omega) (fun hc => hc h2)⟩
  rintro _ w1 fr3 ⟨rfl, hcond⟩
  rw [if_neg hcond]
  have hlen : x.cs.length ≤ 256 := Nat.not_lt.1 fun h => hcond (.inl h)
  have hB : x.b = IntKind.i64.wrap (IntKind.i32.wrap x.b) := Classical.not_not.1 fun h => hcond (.inr h)
  have hBr : -2147483648 ≤ x.b ∧ x.b ≤ 2147483647 := by
    have h1 : -2147483648 ≤ IntKind.i32.wrap x.b ∧ IntKind.i32.wrap x.b ≤ 2147483647 := by
      rw [IntKind.wrap_i32]
      omega
    rw [wrap_i64 (by omega) (by omega)] at hB
    omega
  clear hcond hB
  have K1 := Ck.refl c1
  -- noughts
  refine seq_cut (σ := Value) (fun _ => [(0, .pointer (some ⟨h, 0, none⟩)), (2, .int .i64 f), (4, .pointer (some ⟨w.heap.size, 0, none⟩)), (6, .int .i64 (x.cs.length : Int))])
    (fun v' w' => Ck w1 base h g v w' v' (t.1 ++ List.replicate (padOf x.p.toNat) 0, t.2)) ?_ ?_
  rotate_left
  · intro K hK
    refine draw_ (w := w1) ok (.q 0 (.q 1 (.q 2 (.q 3 (.q 4 (.q 5 (.e 6 (.e 7 (.e 8 .done))))))))) [8] CC (by kernel_rfl) (by kernel_rfl) (by kernel_rfl) (by kernel_rfl) (by kernel_rfl) (ccOf (K1.new (New.drew _))) ?_
    refine Exists.intro (some ⟨g, 0, none⟩) (And.intro (fun w'' hw => cellB hw.2.choose_spec rfl) ?_)
    refine Exists.intro ((x.p.toNat : Nat) : Int) (And.intro (fun w'' hw => cellB hw.1 (by rw [Int.toNat_of_nonneg hp.1]; rfl)) ?_)
    refine call_ (pad_ok x.p.toNat w1.drew (by omega)) ?_
    rintro e wp ⟨rfl, hwp⟩
    obtain rfl := hwp.symm
    refine ⟨_, rfl, ?_⟩
    have Kd := K1.new (New.drew w1)
    refine Exists.intro CC (And.intro (fun _ h => h) (And.intro (ccOf Kd) ?_))
    refine eff_ (op_makeSlice rfl ?_)
    refine make_g ok rfl rfl rfl rfl (n := padOf x.p.toNat) rfl rfl (by show 1 * padOf x.p.toNat ≤ _; unfold padOf; omega) (by unfold padOf; omega) rfl (by decide) ?_
    intro w2 arr hb2 hs2 ha2 n2
    have K2 := Kd.new n2
    refine Exists.intro CC (And.intro (fun _ h => h) (And.intro (ccOf K2) ?_))
    have hrow : Row w2 (some ⟨w1.drew.heap.size, 0, none⟩) (bvs (List.replicate (padOf x.p.toNat) 0)) := zeros_row hb2 fun j hj => by
      rw [ha2 j (by show j < padOf x.p.toNat * 1; omega)]
      show ([Value.int .u8 0])[j % 1]? = _
      rw [Nat.mod_one]
      rfl
    refine call_ (WB1 base g v t.1 (some ⟨w1.drew.heap.size, 0, none⟩) (padOf x.p.toNat) (padOf x.p.toNat) (List.replicate (padOf x.p.toNat) 0) w2 K2.cw.wr hrow (by simp) (by rw [List.length_replicate]; unfold padOf; omega) (K2.base hb1)) ?_
    rintro e w3 ⟨rfl, v3, k3⟩
    refine ⟨_, rfl, ?_⟩
    exact hK v3 _ _ ⟨rfl, rfl, rfl, rfl, trivial⟩ (K2.then (K2.cw.act k3))
  rintro v2 w2 fr4 K2
  unfold wheadS
  dsimp only
  generalize ht2 : ((t.1 ++ List.replicate (padOf x.p.toNat) 0, t.2) : WT) = t2 at K2
  have hl2 : t2.1.length ≤ 1000000003 := by
    rw [← ht2]
    simp [padOf]
    omega
  clear ht2
  -- where else
  have hI1' : CC w1 := ccOf K1
  refine seq_cut (σ := Value) (fun _ => [(0, .pointer (some ⟨h, 0, none⟩)), (2, .int .i64 f), (4, .pointer (some ⟨w.heap.size, 0, none⟩)), (6, .int .i64 (x.cs.length : Int))])
    (fun v' w' => Ck w1 base h g v w' v' (putS (placeS t2 x.p x.a).2 4 true [(placeS t2 x.p x.a).1])) ?_ ?_
  rotate_left
  · intro K hK
    refine draw_ (w := w2) ok (.q 0 (.q 1 (.q 2 (.q 3 (.q 4 (.q 5 (.q 6 (.q 7 (.q 8 (.q 9 (.e 10 (.e 11 (.e 12 .done))))))))))))) [12] CC (by kernel_rfl) (by kernel_rfl) (by kernel_rfl) (by kernel_rfl) (by kernel_rfl) (ccOf (K2.new (New.drew _))) ?_
    refine Exists.intro (some ⟨g, 0, none⟩) (And.intro (fun w'' hw => cellB hw.2.choose_spec rfl) ?_)
    refine loadNC_row (vs := insC x vc) (fun j u hu w'' hw => rowB hw.1 j u hu) rfl ?_
    refine Exists.intro x.a (And.intro (fun w'' hw => cellB hw.1 rfl) ?_)
    have Kd := K2.new (New.drew w2)
    refine call_ (place_ok base h g v2 t2 x vc x.a w2.drew Kd.cw hp) ?_
    rintro e w3 ⟨rfl, k3⟩
    refine ⟨_, rfl, ?_⟩
    have K3 := Kd.then k3
    refine Exists.intro CC (And.intro (fun _ h => h) (And.intro (ccOf K3) ?_))
    have n4 := New.alloc w3 (.cells (ivs [(placeS t2 x.p x.a).1]).toArray 3)
    refine eff_build (xs := ivs [(placeS t2 x.p x.a).1]) rfl rfl rfl rfl rfl rfl rfl rfl rfl ?_
    refine Exists.intro CC (And.intro (fun _ h => h) (And.intro (ccOf (K3.new n4)) ?_))
    refine call_ (put1_ok base h g v2 (placeS t2 x.p x.a).2 true 4 [(placeS t2 x.p x.a).1] 1 w3 K3.cw rfl (by rw [placeS_len]; simp; omega) (K3.base hb1)) ?_
    rintro e w5 ⟨rfl, v5, k5⟩
    refine ⟨_, rfl, ?_⟩
    exact hK v5 _ _ ⟨rfl, rfl, rfl, rfl, trivial⟩ (K3.then k5)
  rintro v3 w3 fr5 K3
  have hl3 := (putS_len (placeS t2 x.p x.a).2 4 true [(placeS t2 x.p x.a).1]).2
  rw [placeS_len] at hl3
  generalize putS (placeS t2 x.p x.a).2 4 true [(placeS t2 x.p x.a).1] = t3 at K3 hl3
  simp at hl3
  -- the bounds
  refine seq_cut (σ := Value) (fun _ => [(0, .pointer (some ⟨h, 0, none⟩)), (2, .int .i64 f), (4, .pointer (some ⟨w.heap.size, 0, none⟩)), (6, .int .i64 (x.cs.length : Int))])
    (fun v' w' => Ck w1 base h g v w' v' (if srch = true then putS t3 4 false [(x.cs.length : Int)] else putS t3 4 true [x.b, x.b + x.cs.length - 1])) ?_ ?_
  rotate_left
  · intro K hK
    refine if_p (fun h8 => ?_) (fun h8 => ?_)
    · replace h8 : f = 8 := h8
      obtain rfl : srch = false := by
        rcases hf with hf | hf
        · exact hf.2
        · omega
      rw [if_neg (by decide)] at hK
      have e1 : IntKind.i64.wrap (x.b + (x.cs.length : Int)) = x.b + x.cs.length := wrap_i64 (by omega) (by omega)
      have e2 : IntKind.i64.wrap (x.b + (x.cs.length : Int) - 1) = x.b + x.cs.length - 1 := wrap_i64 (by omega) (by omega)
      have e3 : (Value.int .i64 (IntKind.i64.wrap (IntKind.i64.wrap (x.b + (x.cs.length : Int)) - 1))) = .int .i64 (x.b + x.cs.length - 1) := by rw [e1, e2]
      refine draw_ (w := w3) ok (.q 0 (.q 1 (.q 2 (.q 3 (.q 4 (.q 5 (.q 6 (.q 7 (.q 8 (.q 9 (.q 10 (.q 11 (.q 12 (.e 13 (.e 14 .done))))))))))))))) [14] CC (by kernel_rfl) (by kernel_rfl) (by kernel_rfl) (by kernel_rfl) (by kernel_rfl) (ccOf (K3.new (New.drew _))) ?_
      refine Exists.intro (some ⟨g, 0, none⟩) (And.intro (fun w'' hw => cellB hw.2.choose_spec rfl) ?_)
      refine Exists.intro x.b (And.intro (fun w'' hw => cellB hw.1 rfl) ?_)
      refine Exists.intro x.b (And.intro (fun w'' hw => cellB hw.1 rfl) ?_)
      have nd := (New.drew w3).trans (New.alloc w3.drew (.cells (ivs [x.b, x.b + x.cs.length - 1]).toArray 3))
      have ew : w3.drew.alloc (.cells (ivs [x.b, IntKind.i64.wrap (IntKind.i64.wrap (x.b + (x.cs.length : Int)) - 1)]).toArray 3) = w3.drew.alloc (.cells (ivs [x.b, x.b + x.cs.length - 1]).toArray 3) := by rw [e1, e2]
      refine Exists.intro CC (And.intro (fun _ h => h) (And.intro (by
        show CC (w3.drew.alloc (.cells (ivs [x.b, IntKind.i64.wrap (IntKind.i64.wrap (x.b + (x.cs.length : Int)) - 1)]).toArray 3))
        rw [ew]
        exact ccOf (K3.new nd)) ?_))
      refine call_ (w := w3.drew.alloc (.cells (ivs [x.b, IntKind.i64.wrap (IntKind.i64.wrap (x.b + (x.cs.length : Int)) - 1)]).toArray 3)) (by
        rw [ew]
        exact put1_ok base h g v3 t3 true 4 [x.b, x.b + x.cs.length - 1] 2 w3.drew (K3.new (New.drew _)).cw rfl (by simp; omega) ((K3.new (New.drew _)).base hb1)) ?_
      rintro e w5 ⟨rfl, v5, k5⟩
      refine ⟨_, rfl, ?_⟩
      exact hK v5 _ _ ⟨rfl, rfl, rfl, rfl, trivial⟩ ((K3.new (New.drew _)).then k5)
    · replace h8 : ¬ f = 8 := h8
      obtain rfl : srch = true := by
        rcases hf with hf | hf
        · omega
        · exact hf.2
      rw [if_pos rfl] at hK
      refine Exists.intro (some ⟨g, 0, none⟩) (And.intro (cellB (ccOf K3).2.choose_spec rfl) ?_)
      refine call_ (put1_ok base h g v3 t3 false 4 [(x.cs.length : Int)] 1 w3 K3.cw rfl (by simp; omega) (K3.base hb1)) ?_
      rintro e w5 ⟨rfl, v5, k5⟩
      refine ⟨_, rfl, ?_⟩
      exact hK v5 _ _ ⟨rfl, rfl, rfl, rfl, trivial⟩ (K3.then k5)
  rintro v4 w4 fr6 K4
  have hl4 : (if srch = true then putS t3 4 false [(x.cs.length : Int)] else putS t3 4 true [x.b, x.b + x.cs.length - 1]).1.length ≤ 1000000015 := by
    split
    · have := (putS_len t3 4 false [(x.cs.length : Int)]).2
      simp at this
      omega
    · have := (putS_len t3 4 true [x.b, x.b + x.cs.length - 1]).2
      simp at this
      omega
  generalize (if srch = true then putS t3 4 false [(x.cs.length : Int)] else putS t3 4 true [x.b, x.b + x.cs.length - 1]) = t4 at K4 hl4
  obtain ⟨⟨A, ca, ev, rowA⟩, _⟩ := hv1
  have hoff : ∀ a, A = some a → x.cs ≠ [] → ¬ WH h g v a.block := fun a ha hn => by
    subst ha
    exact ho a _ _ ev (fun h0 => hn (List.length_eq_zero_iff.1 h0))
  refine Exists.intro A (Exists.intro x.cs.length (Exists.intro ca (And.intro (cellB (ccOf K4).1 (by rw [ev]; rfl)) ?_)))
  refine den_loop (σ := Nat) (fun i => [(0, .pointer (some ⟨h, 0, none⟩)), (2, .int .i64 f), (4, .pointer (some ⟨w.heap.size, 0, none⟩)), (75, .slice A x.cs.length ca), (76, .int .i64 (x.cs.length : Int)), (77, .int .i64 (i : Int))])
    (fun m i wl => m + i = x.cs.length ∧ ∃ vl, Ck w1 base h g v wl vl ((x.cs.take i).foldl (wcaseS srch x.p) t4)) x.cs.length 0
    ⟨rfl, rfl, rfl, rfl, rfl, rfl, trivial⟩ ⟨rfl, v4, K4⟩ ?_
  rintro m i wl frl ⟨hfuel, vl, Kl⟩
  refine if_p (fun hlt => ?_) (fun hge => ?_)
  · replace hlt : (i : Int) < (x.cs.length : Int) := hlt
    have hi : i < x.cs.length := by omega
    obtain ⟨m, rfl⟩ : ∃ m', m = m' + 1 := ⟨m - 1, by omega⟩
    have inc : Value.int .i64 (IntKind.i64.wrap ((i : Int) + 1)) = .int .i64 ((i + 1 : Nat) : Int) := by
      rw [wrap_i64 (by omega) (by omega)]
      rfl
    have hne : x.cs ≠ [] := fun h0 => by rw [h0] at hi; cases hi
    obtain ⟨aC, rfl, hcell⟩ := csF_row (rowA.mod Kl.mod (fun a ha => hoff a ha hne)) hi
    have hstep : (x.cs.take (i + 1)).foldl (wcaseS srch x.p) t4 = wcaseS srch x.p ((x.cs.take i).foldl (wcaseS srch x.p) t4) x.cs[i] := by
      rw [List.take_succ_eq_append_getElem hi, List.foldl_append]
      rfl
    have hll := wfold_len srch x.p (x.cs.take i) t4
    rw [List.length_take] at hll
    generalize (x.cs.take i).foldl (wcaseS srch x.p) t4 = tl at Kl hstep hll
    refine seq_ (block_ ?_)
    -- the case
    refine seq_cut (σ := Unit) (fun _ => [(0, .pointer (some ⟨h, 0, none⟩)), (2, .int .i64 f), (4, .pointer (some ⟨w.heap.size, 0, none⟩)), (8, .pointer (some ⟨wl.heap.size, 0, none⟩)), (75, .slice (some aC) x.cs.length ca), (76, .int .i64 (x.cs.length : Int)), (77, .int .i64 (i : Int))])
      (fun _ w' => New wl w' ∧ w'.heap[wl.heap.size]? = some (.cells (csC x.cs[i]).toArray 93 (0, 0))) ?_ ?_
    rotate_left
    · intro K hK
      refine And.intro (by omega) (And.intro hlt ?_)
      refine loadN_row (vs := csC x.cs[i]) (fun k u hu => by rw [Int.toNat_natCast]; exact hcell k u hu) rfl ?_
      refine And.intro rfl ?_
      refine storeNew (vs := csC x.cs[i]) (arr := #[.int .i64 0, .int .i64 0]) rfl (csC_one _) ?_
      intro w5 hb5 n5 s5
      exact hK () _ _ ⟨rfl, rfl, rfl, rfl, rfl, rfl, rfl, trivial⟩ ⟨n5, hb5⟩
    rintro _ w5 fr7 ⟨n5, hY5⟩
    have K5 := Kl.new n5
    have hYW : ¬ WH h g vl wl.heap.size := by
      have := Kl.cw.lt
      rintro ((e | e) | e)
      · omega
      · have := (Kl.cw.wr.own.lt _ e.symm).2
        omega
      · omega
    let CY : World → Prop := fun w' => CC w' ∧ w'.heap[wl.heap.size]? = some (.cells (csC x.cs[i]).toArray 93 (0, 0))
    have yOf : ∀ {w' : World} {v' : Value} {t' : WT}, Ck w5 base h g vl w' v' t' → CY w' := fun {w' v' t'} k => ⟨ccOf (K5.then k), k.mod.blk hY5 hYW⟩
    have k5 := Ck.refl K5.cw
    have hb5 := K5.base hb1
    refine seq_cut (σ := Value) (fun _ => [(0, .pointer (some ⟨h, 0, none⟩)), (2, .int .i64 f), (4, .pointer (some ⟨w.heap.size, 0, none⟩)), (8, .pointer (some ⟨wl.heap.size, 0, none⟩)), (75, .slice (some aC) x.cs.length ca), (76, .int .i64 (x.cs.length : Int)), (77, .int .i64 (i : Int))])
      (fun v' w' => Ck w5 base h g vl w' v' (if srch = true then putS tl 4 true [x.cs[i].key] else tl)) ?_ ?_
    rotate_left
    · intro K hK
      refine if_p (fun h9 => ?_) (fun h9 => ?_)
      · replace h9 : f = 9 := h9
        obtain rfl : srch = true := by
          rcases hf with hf | hf
          · omega
          · exact hf.2
        rw [if_pos rfl] at hK
        refine draw_ (w := w5) ok (.q 0 (.q 1 (.q 2 (.q 3 (.q 4 (.q 5 (.q 6 (.q 7 (.e 8 (.e 9 .done)))))))))) [9] CY (by kernel_rfl) (by kernel_rfl) (by kernel_rfl) (by kernel_rfl) (by kernel_rfl) (yOf (k5.new (New.drew _))) ?_
        refine Exists.intro (some ⟨g, 0, none⟩) (And.intro (fun w'' hw => cellB hw.1.2.choose_spec rfl) ?_)
        refine Exists.intro x.cs[i].key (And.intro (fun w'' hw => cellB hw.2 rfl) ?_)
        have kd := k5.new (New.drew w5)
        have n6 := New.alloc w5.drew (.cells (ivs [x.cs[i].key]).toArray 3)
        refine eff_build (xs := ivs [x.cs[i].key]) rfl rfl rfl rfl rfl rfl rfl rfl rfl ?_
        refine Exists.intro CY (And.intro (fun _ h => h) (And.intro (yOf (kd.new n6)) ?_))
        refine call_ (put1_ok base h g vl tl true 4 [x.cs[i].key] 1 w5.drew kd.cw rfl (by simp; omega) (kd.base hb5)) ?_
        rintro e w7 ⟨rfl, v7, k7⟩
        refine ⟨_, rfl, ?_⟩
        exact hK v7 _ _ ⟨rfl, rfl, rfl, rfl, rfl, rfl, rfl, trivial⟩ (kd.then k7)
      · replace h9 : ¬ f = 9 := h9
        obtain rfl : srch = false := by
          rcases hf with hf | hf
          · exact hf.2
          · omega
        exact hK vl _ _ ⟨rfl, rfl, rfl, rfl, rfl, rfl, rfl, trivial⟩ k5
    rintro v6 w6 fr8 k6
    rw [wcaseS_eq] at hstep
    have hl6 : (if srch = true then putS tl 4 true [x.cs[i].key] else tl).1.length ≤ 1000010000 := by
      split
      · have := (putS_len tl 4 true [x.cs[i].key]).2
        simp at this
        omega
      · omega
    generalize (if srch = true then putS tl 4 true [x.cs[i].key] else tl) = t6 at k6 hstep hl6
    refine draw_ (w := w6) ok (.q 0 (.q 1 (.q 2 (.q 3 (.q 4 (.q 5 (.q 6 (.q 7 (.q 8 (.q 9 (.e 10 (.e 11 (.e 12 .done))))))))))))) [12] CY (by kernel_rfl) (by kernel_rfl) (by kernel_rfl) (by kernel_rfl) (by kernel_rfl) (yOf (k6.new (New.drew _))) ?_
    refine Exists.intro (some ⟨g, 0, none⟩) (And.intro (fun w'' hw => cellB hw.1.2.choose_spec rfl) ?_)
    refine loadNC_row (vs := insC x vc) (fun j u hu w'' hw => rowB hw.1.1 j u hu) rfl ?_
    refine Exists.intro x.cs[i].to (And.intro (fun w'' hw => cellB hw.2 rfl) ?_)
    have kd := k6.new (New.drew w6)
    refine call_ (place_ok base h g v6 t6 x vc x.cs[i].to w6.drew kd.cw hp) ?_
    rintro e w7 ⟨rfl, k7'⟩
    refine ⟨_, rfl, ?_⟩
    have k7 := kd.then k7'
    refine Exists.intro CY (And.intro (fun _ h => h) (And.intro (yOf k7) ?_))
    have n8 := New.alloc w7 (.cells (ivs [(placeS t6 x.p x.cs[i].to).1]).toArray 3)
    refine eff_build (xs := ivs [(placeS t6 x.p x.cs[i].to).1]) rfl rfl rfl rfl rfl rfl rfl rfl rfl ?_
    refine Exists.intro CY (And.intro (fun _ h => h) (And.intro (yOf (k7.new n8)) ?_))
    refine call_ (put1_ok base h g v6 (placeS t6 x.p x.cs[i].to).2 true 4 [(placeS t6 x.p x.cs[i].to).1] 1 w7 k7.cw rfl (by rw [placeS_len]; simp; omega) (k7.base hb5)) ?_
    rintro e w9 ⟨rfl, v9, k9⟩
    refine ⟨_, rfl, ?_⟩
    refine ⟨m, i + 1, by omega, ⟨rfl, rfl, rfl, rfl, rfl, inc, trivial⟩, by omega, v9, ?_⟩
    rw [hstep]
    exact K5.then (k7.then k9)
  · replace hge : ¬ (i : Int) < (x.cs.length : Int) := hge
    obtain rfl : i = x.cs.length := by omega
    rw [List.take_length] at Kl
    exact ⟨rfl, vl, done Kl⟩
end Go.Proofs.Ytcpeekeiflglpaa.Code
