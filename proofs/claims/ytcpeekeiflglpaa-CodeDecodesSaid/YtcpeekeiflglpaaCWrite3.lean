/- The package code, walked: an instruction written. Printed by genwrite3.py. -/
import Derived.Test.YtcpeekeiflglpaaCWrite2
namespace Go.Proofs.Ytcpeekeiflglpaa.Code
open Go Go.Proofs.Ytcpeekeiflglpaa Go.Proofs.Ytcpeekeiflglpaa.Eng Go.Proofs Go.Proofs.Ytcpeekeiflglpaa.Word
open Go.Proofs.Ytcpeekeiflglpaa.Pool (both own_low)
set_option maxRecDepth 10000

def bodyW (x : Ins) (t : WT) (f : Nat) : WT := match f with
  | 2 => putS t 1 true [x.a]
  | 3 => putS t 2 true [x.a]
  | 4 => putS t 1 false [x.a]
  | 5 => putS t 2 false [x.a]
  | 6 => putS (putS t 1 false [x.a]) 1 true [x.b]
  | 7 => putS (placeS t x.p x.a).2 2 true [(placeS t x.p x.a).1]
  | 8 => wcasesS false x t
  | 9 => wcasesS true x t
  | _ => t
def oneW (x : Ins) (t : WT) : WT := if form x.op = 0 ∨ ¬ x.p = (t.1.length : Int) then (t.1, true) else bodyW x (putS t 1 false [x.op]) (form x.op)
theorem wone_ok (base h g : Nat) (v : Value) (t : WT) (x : Ins) (vc : Value) (w : World) (c : Cw w base h g v t) (hv : CsV w vc x.cs) (ho : Off (WH h g v) vc) (hm : t.1.length ≤ 800000000) (hb : base ≤ w.heap.size) :
    Calls Try.prog 52 #[.pointer (some ⟨h, 0, none⟩), .agg (insC x vc).toArray] w fun e w' => e = .returned (.tuple #[]) ∧ ∃ v', Ck w base h g v w' v' (oneW x t) := by
  refine enter ok Try.func52 rfl rfl rfl ?_
  have n0 := New.alloc w (.cells (insC x vc).toArray 62)
  have hI0 := heap_alloc_new w (.cells (insC x vc).toArray 62)
  obtain ⟨hh, hg⟩ := c.lt
  have hvo := fun b (e : v.ownBlock = some b) => c.wr.own.lt b e
  have hIW : ¬ WH h g v w.heap.size := by
    rintro ((e | e) | e)
    · omega
    · have := (hvo _ e.symm).2
      omega
    · omega
  refine seq_cut (σ := Unit) (fun _ => [(0, .pointer (some ⟨h, 0, none⟩)), (3, .pointer (some ⟨w.heap.size, 0, none⟩))]) (fun _ w' => New w w' ∧ w'.heap[w.heap.size]? = some (.cells (insC x vc).toArray 62 (0, 0))) ?_ ?_
  rotate_left
  · intro K hK
    exact hK () _ _ ⟨rfl, rfl, trivial⟩ ⟨n0, hI0⟩
  rintro _ w1 fr1 ⟨n1, hI1⟩
  clear n0 hI0
  refine seq_cut (σ := Unit) (fun _ => [(0, .pointer (some ⟨h, 0, none⟩)), (3, .pointer (some ⟨w.heap.size, 0, none⟩)), (4, .int .i64 (form x.op : Int))]) (fun _ w' => New w w' ∧ w'.heap[w.heap.size]? = some (.cells (insC x vc).toArray 62 (0, 0))) ?_ ?_
  rotate_left
  · intro K hK
    refine Exists.intro x.op (And.intro (cellB hI1 rfl) ?_)
    refine call_ (formOf_ok x.op w1) ?_
    rintro e w2 ⟨rfl, n2⟩
    refine ⟨_, rfl, ?_⟩
    exact hK () _ _ ⟨rfl, rfl, rfl, trivial⟩ ⟨n1.trans n2, n2.blk hI1⟩
  rintro _ w2 fr2 ⟨n2, hI2⟩
  clear n1 hI1
  have c2 := c.new n2
  have hb2 := Nat.le_trans hb n2.size
  have hv2 := hv.new n2
  let CC : World → Prop := fun w' => w'.heap[w.heap.size]? = some (.cells (insC x vc).toArray 62 (0, 0)) ∧ ∃ b, w'.heap[h]? = some (.cells #[.pointer (some ⟨g, 0, none⟩), .bool b] 97 (0, 0))
  have ccOf : ∀ {w' : World} {v' : Value} {t' : WT}, Ck w2 base h g v w' v' t' → CC w' := fun {w' v' t'} k => ⟨k.mod.blk hI2 hIW, t'.2, k.cw.blk⟩
  have done : ∀ {w' : World} {v' : Value} {t' : WT}, Ck w2 base h g v w' v' t' → Ck w base h g v w' v' t' := fun {w' v' t'} k => ((Ck.refl c).new n2).then k
  have K2 := Ck.refl c2
  unfold oneW
  -- whether it is one, and here
  refine seq_cut (σ := Unit) (fun _ => [(0, .pointer (some ⟨h, 0, none⟩)), (3, .pointer (some ⟨w.heap.size, 0, none⟩)), (4, .int .i64 (form x.op : Int))]) (fun _ w' => Ck w2 base h g v w' v t ∧ form x.op ≠ 0 ∧ x.p = (t.1.length : Int)) ?_ ?_
  rotate_left
  · intro K hK
    refine draw_ (w := w2) ok (.q 0 (.q 1 (.q 2 (.q 3 (.q 4 (.q 5 (.q 6 (.q 7 (.q 8 (.e 9 (.q 10 (.q 11 .done)))))))))))) [11] CC (by kernel_rfl) (by kernel_rfl) (by kernel_rfl) (by kernel_rfl) (by kernel_rfl) (ccOf (K2.new (New.drew _))) ?_
    have Kd := K2.new (New.drew w2)
    have hbd := Kd.cw.blk
    refine if_p (fun h0 => ?_) (fun h0 => ?_)
    · replace h0 : (form x.op : Int) = 0 := h0
      refine And.intro ⟨_, cellB hbd rfl⟩ (And.intro (fzB hbd _) (force_ ?_))
      refine stK hbd (show (1 : Nat) < 2 by decide) ?_
      intro w3 hb3 m3 s3
      rw [if_pos (.inl (by omega))]
      exact ⟨rfl, v, done (Kd.then (Kd.cw.set m3 (b := true) hb3))⟩
    · replace h0 : ¬ (form x.op : Int) = 0 := h0
      refine Exists.intro x.p (And.intro (fun w'' hw => cellB hw.1 rfl) ?_)
      refine Exists.intro (some ⟨g, 0, none⟩) (And.intro (fun w'' hw => cellB hw.2.choose_spec rfl) ?_)
      refine call_ (Len_ok base g v t.1 w2.drew Kd.cw.wr) ?_
      rintro e w3 ⟨rfl, hw3⟩
      obtain rfl := hw3.symm
      refine ⟨_, rfl, ?_⟩
      refine Exists.intro CC (And.intro (fun _ h => h) (And.intro (ccOf Kd) ?_))
      refine if_n (fun h1 => ?_) (fun h1 => ?_)
      · replace h1 : ¬ x.p = (t.1.length : Int) := h1
        refine And.intro ⟨_, cellB hbd rfl⟩ (And.intro (fzB hbd _) (force_ ?_))
        refine stK hbd (show (1 : Nat) < 2 by decide) ?_
        intro w4 hb4 m4 s4
        rw [if_pos (.inr h1)]
        exact ⟨rfl, v, done (Kd.then (Kd.cw.set m4 (b := true) hb4))⟩
      · exact hK () _ _ ⟨rfl, rfl, rfl, trivial⟩ ⟨Kd, by omega, h1⟩
  rintro _ w3 fr3 ⟨K3, h0, hp⟩
  rw [if_neg (fun hc => hc.elim h0 (fun hc => hc hp))]
  -- the Op
  refine seq_cut (σ := Value) (fun _ => [(0, .pointer (some ⟨h, 0, none⟩)), (3, .pointer (some ⟨w.heap.size, 0, none⟩)), (4, .int .i64 (form x.op : Int))]) (fun v' w' => Ck w2 base h g v w' v' (putS t 1 false [x.op])) ?_ ?_
  rotate_left
  · intro K hK
    refine draw_ (w := w3) ok (.q 0 (.q 1 (.q 2 (.q 3 (.q 4 (.q 5 (.q 6 (.q 7 (.e 8 (.e 9 .done)))))))))) [9] CC (by kernel_rfl) (by kernel_rfl) (by kernel_rfl) (by kernel_rfl) (by kernel_rfl) (ccOf (K3.new (New.drew _))) ?_
    refine Exists.intro (some ⟨g, 0, none⟩) (And.intro (fun w'' hw => cellB hw.2.choose_spec rfl) ?_)
    refine Exists.intro x.op (And.intro (fun w'' hw => cellB hw.1 rfl) ?_)
    have kd := K3.new (New.drew w3)
    have n6 := New.alloc w3.drew (.cells (ivs [x.op]).toArray 3)
    refine eff_build (xs := ivs [x.op]) rfl rfl rfl rfl rfl rfl rfl rfl rfl ?_
    refine Exists.intro CC (And.intro (fun _ h => h) (And.intro (ccOf (kd.new n6)) ?_))
    refine call_ (put1_ok base h g v t false 1 [x.op] 1 w3.drew kd.cw rfl (by simp; omega) (kd.base hb2)) ?_
    rintro e w7 ⟨rfl, v7, k7⟩
    refine ⟨_, rfl, ?_⟩
    exact hK v7 _ _ ⟨rfl, rfl, rfl, trivial⟩ (kd.then k7)
  rintro v5 w5 fr5 K5
  have hl5 := putS_len t 1 false [x.op]
  simp only [List.length_cons, List.length_nil] at hl5
  generalize putS t 1 false [x.op] = t1 at K5 hl5
  have hp2 : 0 ≤ x.p ∧ x.p ≤ 2000000000 := by omega
  refine if_p (fun h2 => ?_) (fun h2 => ?_)
  · replace h2 : (form x.op : Int) = 2 := h2
    rw [show form x.op = 2 by omega]
    refine draw_ (w := w5) ok (.q 0 (.q 1 (.q 2 (.q 3 (.q 4 (.q 5 (.q 6 (.q 7 (.e 8 (.e 9 .done)))))))))) [9] CC (by kernel_rfl) (by kernel_rfl) (by kernel_rfl) (by kernel_rfl) (by kernel_rfl) (ccOf (K5.new (New.drew _))) ?_
    refine Exists.intro (some ⟨g, 0, none⟩) (And.intro (fun w'' hw => cellB hw.2.choose_spec rfl) ?_)
    refine Exists.intro x.a (And.intro (fun w'' hw => cellB hw.1 rfl) ?_)
    have kd := K5.new (New.drew w5)
    have n6 := New.alloc w5.drew (.cells (ivs [x.a]).toArray 3)
    refine eff_build (xs := ivs [x.a]) rfl rfl rfl rfl rfl rfl rfl rfl rfl ?_
    refine Exists.intro CC (And.intro (fun _ h => h) (And.intro (ccOf (kd.new n6)) ?_))
    refine call_ (put1_ok base h g v5 t1 true 1 [x.a] 1 w5.drew kd.cw rfl (by simp; omega) (kd.base hb2)) ?_
    rintro e w7 ⟨rfl, v7, k7⟩
    refine ⟨_, rfl, ?_⟩
    exact ⟨rfl, v7, done (kd.then k7)⟩
  replace h2 : ¬ (form x.op : Int) = 2 := h2
  refine if_p (fun h3 => ?_) (fun h3 => ?_)
  · replace h3 : (form x.op : Int) = 3 := h3
    rw [show form x.op = 3 by omega]
    refine draw_ (w := w5) ok (.q 0 (.q 1 (.q 2 (.q 3 (.q 4 (.q 5 (.q 6 (.q 7 (.e 8 (.e 9 .done)))))))))) [9] CC (by kernel_rfl) (by kernel_rfl) (by kernel_rfl) (by kernel_rfl) (by kernel_rfl) (ccOf (K5.new (New.drew _))) ?_
    refine Exists.intro (some ⟨g, 0, none⟩) (And.intro (fun w'' hw => cellB hw.2.choose_spec rfl) ?_)
    refine Exists.intro x.a (And.intro (fun w'' hw => cellB hw.1 rfl) ?_)
    have kd := K5.new (New.drew w5)
    have n6 := New.alloc w5.drew (.cells (ivs [x.a]).toArray 3)
    refine eff_build (xs := ivs [x.a]) rfl rfl rfl rfl rfl rfl rfl rfl rfl ?_
    refine Exists.intro CC (And.intro (fun _ h => h) (And.intro (ccOf (kd.new n6)) ?_))
    refine call_ (put1_ok base h g v5 t1 true 2 [x.a] 1 w5.drew kd.cw rfl (by simp; omega) (kd.base hb2)) ?_
    rintro e w7 ⟨rfl, v7, k7⟩
    refine ⟨_, rfl, ?_⟩
    exact ⟨rfl, v7, done (kd.then k7)⟩
  replace h3 : ¬ (form x.op : Int) = 3 := h3
  refine if_p (fun h4 => ?_) (fun h4 => ?_)
  · replace h4 : (form x.op : Int) = 4 := h4
    rw [show form x.op = 4 by omega]
    refine draw_ (w := w5) ok (.q 0 (.q 1 (.q 2 (.q 3 (.q 4 (.q 5 (.q 6 (.q 7 (.e 8 (.e 9 .done)))))))))) [9] CC (by kernel_rfl) (by kernel_rfl) (by kernel_rfl) (by kernel_rfl) (by kernel_rfl) (ccOf (K5.new (New.drew _))) ?_
    refine Exists.intro (some ⟨g, 0, none⟩) (And.intro (fun w'' hw => cellB hw.2.choose_spec rfl) ?_)
    refine Exists.intro x.a (And.intro (fun w'' hw => cellB hw.1 rfl) ?_)
    have kd := K5.new (New.drew w5)
    have n6 := New.alloc w5.drew (.cells (ivs [x.a]).toArray 3)
    refine eff_build (xs := ivs [x.a]) rfl rfl rfl rfl rfl rfl rfl rfl rfl ?_
    refine Exists.intro CC (And.intro (fun _ h => h) (And.intro (ccOf (kd.new n6)) ?_))
    refine call_ (put1_ok base h g v5 t1 false 1 [x.a] 1 w5.drew kd.cw rfl (by simp; omega) (kd.base hb2)) ?_
    rintro e w7 ⟨rfl, v7, k7⟩
    refine ⟨_, rfl, ?_⟩
    exact ⟨rfl, v7, done (kd.then k7)⟩
  replace h4 : ¬ (form x.op : Int) = 4 := h4
  refine if_p (fun h5 => ?_) (fun h5 => ?_)
  · replace h5 : (form x.op : Int) = 5 := h5
    rw [show form x.op = 5 by omega]
    refine draw_ (w := w5) ok (.q 0 (.q 1 (.q 2 (.q 3 (.q 4 (.q 5 (.q 6 (.q 7 (.e 8 (.e 9 .done)))))))))) [9] CC (by kernel_rfl) (by kernel_rfl) (by kernel_rfl) (by kernel_rfl) (by kernel_rfl) (ccOf (K5.new (New.drew _))) ?_
    refine Exists.intro (some ⟨g, 0, none⟩) (And.intro (fun w'' hw => cellB hw.2.choose_spec rfl) ?_)
    refine Exists.intro x.a (And.intro (fun w'' hw => cellB hw.1 rfl) ?_)
    have kd := K5.new (New.drew w5)
    have n6 := New.alloc w5.drew (.cells (ivs [x.a]).toArray 3)
    refine eff_build (xs := ivs [x.a]) rfl rfl rfl rfl rfl rfl rfl rfl rfl ?_
    refine Exists.intro CC (And.intro (fun _ h => h) (And.intro (ccOf (kd.new n6)) ?_))
    refine call_ (put1_ok base h g v5 t1 false 2 [x.a] 1 w5.drew kd.cw rfl (by simp; omega) (kd.base hb2)) ?_
    rintro e w7 ⟨rfl, v7, k7⟩
    refine ⟨_, rfl, ?_⟩
    exact ⟨rfl, v7, done (kd.then k7)⟩
  replace h5 : ¬ (form x.op : Int) = 5 := h5
  refine if_p (fun h6 => ?_) (fun h6 => ?_)
  · replace h6 : (form x.op : Int) = 6 := h6
    rw [show form x.op = 6 by omega]
    refine seq_cut (σ := Value) (fun _ => [(0, .pointer (some ⟨h, 0, none⟩)), (3, .pointer (some ⟨w.heap.size, 0, none⟩))]) (fun v' w' => Ck w2 base h g v w' v' (putS t1 1 false [x.a])) ?_ ?_
    rotate_left
    · intro K hK
      refine draw_ (w := w5) ok (.q 0 (.q 1 (.q 2 (.q 3 (.q 4 (.q 5 (.q 6 (.q 7 (.e 8 (.e 9 .done)))))))))) [9] CC (by kernel_rfl) (by kernel_rfl) (by kernel_rfl) (by kernel_rfl) (by kernel_rfl) (ccOf (K5.new (New.drew _))) ?_
      refine Exists.intro (some ⟨g, 0, none⟩) (And.intro (fun w'' hw => cellB hw.2.choose_spec rfl) ?_)
      refine Exists.intro x.a (And.intro (fun w'' hw => cellB hw.1 rfl) ?_)
      have kd := K5.new (New.drew w5)
      have n6 := New.alloc w5.drew (.cells (ivs [x.a]).toArray 3)
      refine eff_build (xs := ivs [x.a]) rfl rfl rfl rfl rfl rfl rfl rfl rfl ?_
      refine Exists.intro CC (And.intro (fun _ h => h) (And.intro (ccOf (kd.new n6)) ?_))
      refine call_ (put1_ok base h g v5 t1 false 1 [x.a] 1 w5.drew kd.cw rfl (by simp; omega) (kd.base hb2)) ?_
      rintro e w7 ⟨rfl, v7, k7⟩
      refine ⟨_, rfl, ?_⟩
      exact hK v7 _ _ ⟨rfl, rfl, trivial⟩ (kd.then k7)
    rintro v6 w6 fr6 K6
    have hl6 := (putS_len t1 1 false [x.a]).2
    simp only [List.length_cons, List.length_nil] at hl6
    refine draw_ (w := w6) ok (.q 0 (.q 1 (.q 2 (.q 3 (.q 4 (.q 5 (.q 6 (.q 7 (.e 8 (.e 9 .done)))))))))) [9] CC (by kernel_rfl) (by kernel_rfl) (by kernel_rfl) (by kernel_rfl) (by kernel_rfl) (ccOf (K6.new (New.drew _))) ?_
    refine Exists.intro (some ⟨g, 0, none⟩) (And.intro (fun w'' hw => cellB hw.2.choose_spec rfl) ?_)
    refine Exists.intro x.b (And.intro (fun w'' hw => cellB hw.1 rfl) ?_)
    have kd := K6.new (New.drew w6)
    have n6 := New.alloc w6.drew (.cells (ivs [x.b]).toArray 3)
    refine eff_build (xs := ivs [x.b]) rfl rfl rfl rfl rfl rfl rfl rfl rfl ?_
    refine Exists.intro CC (And.intro (fun _ h => h) (And.intro (ccOf (kd.new n6)) ?_))
    refine call_ (put1_ok base h g v6 (putS t1 1 false [x.a]) true 1 [x.b] 1 w6.drew kd.cw rfl (by simp; omega) (kd.base hb2)) ?_
    rintro e w7 ⟨rfl, v7, k7⟩
    refine ⟨_, rfl, ?_⟩
    exact ⟨rfl, v7, done (kd.then k7)⟩
  replace h6 : ¬ (form x.op : Int) = 6 := h6
  refine if_p (fun h7 => ?_) (fun h7 => ?_)
  · replace h7 : (form x.op : Int) = 7 := h7
    rw [show form x.op = 7 by omega]
    refine draw_ (w := w5) ok (.q 0 (.q 1 (.q 2 (.q 3 (.q 4 (.q 5 (.q 6 (.q 7 (.q 8 (.q 9 (.e 10 (.e 11 (.e 12 .done))))))))))))) [12] CC (by kernel_rfl) (by kernel_rfl) (by kernel_rfl) (by kernel_rfl) (by kernel_rfl) (ccOf (K5.new (New.drew _))) ?_
    refine Exists.intro (some ⟨g, 0, none⟩) (And.intro (fun w'' hw => cellB hw.2.choose_spec rfl) ?_)
    refine loadNC_row (vs := insC x vc) (fun j u hu w'' hw => rowB hw.1 j u hu) rfl ?_
    refine Exists.intro x.a (And.intro (fun w'' hw => cellB hw.1 rfl) ?_)
    have kd := K5.new (New.drew w5)
    refine call_ (place_ok base h g v5 t1 x vc x.a w5.drew kd.cw hp2) ?_
    rintro e w7 ⟨rfl, k7'⟩
    refine ⟨_, rfl, ?_⟩
    have k7 := kd.then k7'
    refine Exists.intro CC (And.intro (fun _ h => h) (And.intro (ccOf k7) ?_))
    have n8 := New.alloc w7 (.cells (ivs [(placeS t1 x.p x.a).1]).toArray 3)
    refine eff_build (xs := ivs [(placeS t1 x.p x.a).1]) rfl rfl rfl rfl rfl rfl rfl rfl rfl ?_
    refine Exists.intro CC (And.intro (fun _ h => h) (And.intro (ccOf (k7.new n8)) ?_))
    refine call_ (put1_ok base h g v5 (placeS t1 x.p x.a).2 true 2 [(placeS t1 x.p x.a).1] 1 w7 k7.cw rfl (by rw [placeS_len]; simp; omega) (k7.base hb2)) ?_
    rintro e w9 ⟨rfl, v9, k9⟩
    refine ⟨_, rfl, ?_⟩
    exact ⟨rfl, v9, done (k7.then k9)⟩
  replace h7 : ¬ (form x.op : Int) = 7 := h7
  refine seq_cut (σ := Unit) (fun _ => [(0, .pointer (some ⟨h, 0, none⟩)), (3, .pointer (some ⟨w.heap.size, 0, none⟩)), (4, .int .i64 (form x.op : Int)), (119, .bool (decide (form x.op = 8 ∨ form x.op = 9)))]) (fun _ w' => w' = w5) ?_ ?_
  rotate_left
  · intro K hK
    refine if_p (fun h8 => ?_) (fun h8 => ?_)
    · replace h8 : (form x.op : Int) = 8 := h8
      exact hK () _ _ ⟨rfl, rfl, rfl, (show Value.bool (decide ((form x.op : Int) = 8)) = _ by rw [decide_eq_true h8, decide_eq_true (show form x.op = 8 ∨ form x.op = 9 by omega)]), trivial⟩ rfl
    · replace h8 : ¬ (form x.op : Int) = 8 := h8
      refine hK () _ _ ⟨rfl, rfl, rfl, (show Value.bool (decide ((form x.op : Int) = 9)) = .bool (decide (form x.op = 8 ∨ form x.op = 9)) from ?_), trivial⟩ rfl
      congr 1
      exact decide_eq_decide.2 (by omega)
  rintro _ w5' fr6 rfl
  refine if_p (fun h8 => ?_) (fun h8 => ?_)
  · replace h8 : form x.op = 8 ∨ form x.op = 9 := h8
    refine loadN_row (vs := insC x vc) (rowB (ccOf K5).1) rfl ?_
    have off5 : Off (WH h g v5) vc := fun a n c' e hn hW => by
      rcases hW with (hW | hW) | hW
      · exact ho a n c' e hn (.inl (.inl hW))
      · rcases K5.st _ hW.symm with h1 | h1
        · exact ho a n c' e hn (.inl (.inr h1.symm))
        · have := hv2.low e hn
          omega
      · exact ho a n c' e hn (.inr hW)
    refine call_ (wcases_ok base h g v5 t1 x vc (form x.op : Int) (decide (form x.op = 9)) w5' (by
      rcases h8 with h8 | h8
      · exact .inl ⟨by omega, decide_eq_false (by omega)⟩
      · exact .inr ⟨by omega, decide_eq_true h8⟩) K5.cw (hv2.modN K5.mod ho) off5 hp2 (by omega) (K5.base hb2)) ?_
    rintro e w7 ⟨rfl, v7, k7⟩
    refine ⟨_, rfl, ?_⟩
    refine ⟨rfl, v7, done (K5.then ?_)⟩
    rcases h8 with h8 | h8
    · rw [h8] at k7 ⊢
      exact k7
    · rw [h8] at k7 ⊢
      exact k7
  · replace h8 : ¬ (form x.op = 8 ∨ form x.op = 9) := h8
    have hle := form_le x.op
    rw [show form x.op = 1 by omega]
    exact ⟨rfl, v5, done K5⟩
end Go.Proofs.Ytcpeekeiflglpaa.Code
