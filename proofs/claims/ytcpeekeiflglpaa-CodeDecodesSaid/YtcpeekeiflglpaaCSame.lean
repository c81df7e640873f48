/- larchbase.SameInstrs of lists that are the same; larchbase.Among; code.Plain where works asks it. Printed by gensame.py. -/
import Derived.Test.YtcpeekeiflglpaaCEnc2
namespace Go.Proofs.Ytcpeekeiflglpaa.Code
open Go Go.Proofs.Ytcpeekeiflglpaa Go.Proofs.Ytcpeekeiflglpaa.Eng Go.Proofs Go.Proofs.Ytcpeekeiflglpaa.Word
open Go.Proofs.Ytcpeekeiflglpaa.Pool (both own_low)
set_option maxRecDepth 10000

theorem SameInstrs_ok (A1 A2 : Option Addr) (n1 n2 c1 c2 : Nat) (l1 l2 : List It) (w : World) (h1 : n1 = l1.length) (h2 : n2 = l2.length) (r1 : Ct w A1 l1) (r2 : Ct w A2 l2) (heq : l1.map (·.1) = l2.map (·.1)) (hl : l1.length ≤ 8796093022208) :
    Calls Try.prog 27 #[.slice A1 n1 c1, .slice A2 n2 c2] w fun e w' => e = .returned (.bool true) ∧ New w w' := by
  subst h1 h2
  have hlen : l1.length = l2.length := by
    have := congrArg List.length heq
    simpa using this
  refine enter ok Try.func27 rfl rfl rfl ?_
  refine if_n (fun h => absurd (show (l1.length : Int) = l2.length by omega) h) (fun _ => ?_)
  refine den_loop (σ := Nat) (fun i => [(0, .slice A1 l1.length c1), (1, .slice A2 l2.length c2), (5, .int .i64 (i : Int))]) (fun m i wl => m + i = l1.length ∧ New w wl) l1.length 0 ⟨rfl, rfl, rfl, trivial⟩ ⟨rfl, New.refl _⟩ ?_
  rintro m i wl frl ⟨hfuel, kl⟩
  refine if_p (fun hlt => ?_) (fun hge => ?_)
  · replace hlt : (i : Int) < (l1.length : Int) := hlt
    have hlt2 : (i : Int) < (l2.length : Int) := by omega
    have hi1 : i < l1.length := by omega
    have hi2 : i < l2.length := by omega
    obtain ⟨m, rfl⟩ : ∃ m', m = m' + 1 := ⟨m - 1, by omega⟩
    have inc : Value.int .i64 (IntKind.i64.wrap ((i : Int) + 1)) = .int .i64 ((i + 1 : Nat) : Int) := by
      rw [wrap_i64 (by omega) (by omega)]
      rfl
    have he : l1[i].1 = l2[i].1 := by
      have := congrArg (fun l => l[i]?) heq
      simpa [hi1, hi2] using this
    have d1 := r1.new kl
    have d2 := r2.new kl
    have v1 := d1.cs _ (List.getElem_mem hi1)
    have v2 := d2.cs _ (List.getElem_mem hi2)
    obtain ⟨a1, e1, hc1⟩ := itF_row d1.row hi1
    obtain ⟨a2, e2, hc2⟩ := itF_row d2.row hi2
    generalize l1[i] = t1 at he v1 hc1
    generalize l2[i] = t2 at he v2 hc2
    obtain ⟨⟨B1, b1, ev1, row1⟩, hcl⟩ := v1
    obtain ⟨⟨B2, b2, ev2, row2⟩, _⟩ := v2
    have hcs : t1.1.cs = t2.1.cs := by rw [he]
    refine skip_ (thenF_ ?_)
    refine seq_ (block_ ?_)
    refine seq_cut (σ := Unit) (fun _ => [(0, .slice A1 l1.length c1), (1, .slice A2 l2.length c2), (5, .int .i64 (i : Int))]) (fun _ w' => New wl w') ?_ ?_
    rotate_left
    · intro K hK
      refine draw_ (w := wl) ok (.q 0 (.q 1 (.q 2 (.q 3 (.q 4 (.q 5 (.q 6 (.q 7 (.q 8 (.q 9 (.q 10 (.q 11 (.q 12 (.q 13 (.q 14 (.q 15 (.q 16 (.q 17 (.q 18 (.q 19 (.q 20 (.q 21 (.q 22 (.q 23 (.q 24 (.q 25 (.q 26 (.q 27 (.q 28 (.q 29 (.q 30 (.q 31 (.q 32 (.q 33 (.q 34 (.q 35 (.q 36 (.q 37 (.q 38 (.q 39 (.q 40 (.q 41 (.q 42 (.q 43 (.q 44 (.q 45 (.q 46 (.q 47 (.q 48 (.q 49 (.q 50 (.q 51 (.q 52 (.q 53 (.q 54 (.q 55 (.q 56 (.q 57 (.q 58 (.q 59 (.q 60 (.q 61 (.q 62 (.q 63 (.q 64 .done))))))))))))))))))))))))))))))))))))))))))))))))))))))))))))))))) [64] (New wl) (by kernel_rfl) (by kernel_rfl) (by kernel_rfl) (by kernel_rfl) (by kernel_rfl) (New.drew _) ?_
      refine And.intro (by omega) (And.intro hlt ?_)
      refine some_at e1 ?_
      refine Exists.intro t1.1.p (And.intro (fun w'' hw => by rw [Int.toNat_natCast]; exact hw.cell (hc1 0 _ rfl)) ?_)
      refine And.intro (by omega) (And.intro hlt2 ?_)
      refine some_at e2 ?_
      refine Exists.intro t2.1.p (And.intro (fun w'' hw => by rw [Int.toNat_natCast]; exact hw.cell (hc2 0 _ rfl)) ?_)
      refine if_n (fun h => absurd (congrArg Ins.p he) h) (fun _ => ?_)
      refine And.intro (by omega) (And.intro hlt ?_)
      refine some_at e1 ?_
      refine Exists.intro t1.1.op (And.intro (fun w'' hw => by rw [Int.toNat_natCast]; exact hw.cell (hc1 1 _ rfl)) ?_)
      refine And.intro (by omega) (And.intro hlt2 ?_)
      refine some_at e2 ?_
      refine Exists.intro t2.1.op (And.intro (fun w'' hw => by rw [Int.toNat_natCast]; exact hw.cell (hc2 1 _ rfl)) ?_)
      refine if_n (fun h => absurd (congrArg Ins.op he) h) (fun _ => ?_)
      refine And.intro (by omega) (And.intro hlt ?_)
      refine some_at e1 ?_
      refine Exists.intro t1.1.a (And.intro (fun w'' hw => by rw [Int.toNat_natCast]; exact hw.cell (hc1 2 _ rfl)) ?_)
      refine And.intro (by omega) (And.intro hlt2 ?_)
      refine some_at e2 ?_
      refine Exists.intro t2.1.a (And.intro (fun w'' hw => by rw [Int.toNat_natCast]; exact hw.cell (hc2 2 _ rfl)) ?_)
      refine if_n (fun h => absurd (congrArg Ins.a he) h) (fun _ => ?_)
      refine And.intro (by omega) (And.intro hlt ?_)
      refine some_at e1 ?_
      refine Exists.intro t1.1.b (And.intro (fun w'' hw => by rw [Int.toNat_natCast]; exact hw.cell (hc1 3 _ rfl)) ?_)
      refine And.intro (by omega) (And.intro hlt2 ?_)
      refine some_at e2 ?_
      refine Exists.intro t2.1.b (And.intro (fun w'' hw => by rw [Int.toNat_natCast]; exact hw.cell (hc2 3 _ rfl)) ?_)
      refine if_n (fun h => absurd (congrArg Ins.b he) h) (fun _ => ?_)
      refine And.intro (by omega) (And.intro hlt ?_)
      refine some_at e1 ?_
      refine Exists.intro B1 (Exists.intro t1.1.cs.length (Exists.intro b1 (And.intro (fun w'' hw => by rw [Int.toNat_natCast]; exact hw.cell (hc1 4 _ (by rw [ev1]; rfl))) ?_)))
      refine And.intro (by omega) (And.intro hlt2 ?_)
      refine some_at e2 ?_
      refine Exists.intro B2 (Exists.intro t2.1.cs.length (Exists.intro b2 (And.intro (fun w'' hw => by rw [Int.toNat_natCast]; exact hw.cell (hc2 4 _ (by rw [ev2]; rfl))) ?_)))
      refine if_n (fun h => absurd (show (t1.1.cs.length : Int) = t2.1.cs.length by rw [hcs]) h) (fun _ => ?_)
      exact hK () _ _ ⟨rfl, rfl, rfl, trivial⟩ (New.drew _)
    rintro _ w2 fr2 n2
    refine seq_assign ?_
    refine den_loop (σ := Nat) (fun k => [(0, .slice A1 l1.length c1), (1, .slice A2 l2.length c2), (5, .int .i64 (i : Int)), (6, .int .i64 (k : Int))]) (fun q k wk => q + k = t1.1.cs.length ∧ New wl wk) t1.1.cs.length 0 ⟨rfl, rfl, rfl, rfl, trivial⟩ ⟨rfl, n2⟩ ?_
    rintro q k wk frk ⟨hq, kk⟩
    refine And.intro (by omega) (And.intro hlt ?_)
    refine some_at e1 ?_
    refine Exists.intro B1 (Exists.intro t1.1.cs.length (Exists.intro b1 (And.intro (by rw [Int.toNat_natCast]; exact kk.cell (hc1 4 _ (by rw [ev1]; rfl))) ?_)))
    refine if_p (fun hk => ?_) (fun hk => ?_)
    · replace hk : (k : Int) < (t1.1.cs.length : Int) := hk
      have hk1 : k < t1.1.cs.length := by omega
      have hk2 : k < t2.1.cs.length := by rw [← hcs]; omega
      obtain ⟨q, rfl⟩ : ∃ q', q = q' + 1 := ⟨q - 1, by omega⟩
      have inck : Value.int .i64 (IntKind.i64.wrap ((k : Int) + 1)) = .int .i64 ((k + 1 : Nat) : Int) := by
        rw [wrap_i64 (by omega) (by omega)]
        rfl
      obtain ⟨p1, f1, g1⟩ := csF_row (row1.new kk) hk1
      obtain ⟨p2, f2, g2⟩ := csF_row (row2.new kk) hk2
      refine draw_ (w := wk) ok (.q 0 (.q 1 (.q 2 (.q 3 (.q 4 (.q 5 (.q 6 (.q 7 (.q 8 (.q 9 (.q 10 (.q 11 (.q 12 (.q 13 (.q 14 (.q 15 (.q 16 .done))))))))))))))))) [16] (New wk) (by kernel_rfl) (by kernel_rfl) (by kernel_rfl) (by kernel_rfl) (by kernel_rfl) (New.drew _) ?_
      refine And.intro (by omega) (And.intro hlt ?_)
      refine some_at e1 ?_
      refine Exists.intro B1 (Exists.intro t1.1.cs.length (Exists.intro b1 (And.intro (fun w'' hw => by rw [Int.toNat_natCast]; exact (kk.trans hw).cell (hc1 4 _ (by rw [ev1]; rfl))) ?_)))
      refine And.intro (by omega) (And.intro hk ?_)
      refine some_at f1 ?_
      refine loadNC_row (vs := csC t1.1.cs[k]) (fun j u hu w'' hw => by rw [Int.toNat_natCast]; exact hw.cell (g1 j u hu)) rfl ?_
      refine And.intro (by omega) (And.intro hlt2 ?_)
      refine some_at e2 ?_
      refine Exists.intro B2 (Exists.intro t2.1.cs.length (Exists.intro b2 (And.intro (fun w'' hw => by rw [Int.toNat_natCast]; exact (kk.trans hw).cell (hc2 4 _ (by rw [ev2]; rfl))) ?_)))
      refine And.intro (by omega) (And.intro (by omega) ?_)
      refine some_at f2 ?_
      refine loadNC_row (vs := csC t2.1.cs[k]) (fun j u hu w'' hw => by rw [Int.toNat_natCast]; exact hw.cell (g2 j u hu)) rfl ?_
      have hce : t1.1.cs[k] = t2.1.cs[k] := by
        have := congrArg (fun l => l[k]?) hcs
        simpa [hk1, hk2] using this
      refine Exists.intro (.bool (!decide (t1.1.cs[k] = t2.1.cs[k]))) (And.intro (fun w'' _ => agg_cmp ok rfl rfl rfl (by kernel_rfl) (by kernel_rfl) rfl rfl rfl (!decide (t1.1.cs[k] = t2.1.cs[k])) (.inr ⟨rfl, by exact congrArg (!·) (csEq t1.1.cs[k] t2.1.cs[k])⟩) w'') ?_)
      refine if_n (fun h => absurd hce h) (fun _ => ?_)
      exact ⟨q, k + 1, by omega, ⟨rfl, rfl, rfl, inck, trivial⟩, by omega, kk.trans (New.drew _)⟩
    · exact ⟨m, i + 1, by omega, ⟨rfl, rfl, inc, trivial⟩, by omega, kl.trans kk⟩
  · exact ⟨rfl, kl⟩
theorem Among_ok (x n : Int) (w : World) (hn : 1 ≤ n ∧ n ≤ 9223372036854775807) : Calls Try.prog 31 #[.int .i64 x, .int .i64 n] w fun e w' => ∃ k : Nat, e = .returned (.int .i64 (k : Int)) ∧ (k : Int) < n ∧ w' = w := by
  refine enter ok Try.func31 rfl rfl rfl ?_
  refine if_p (fun h => absurd h (by omega)) (fun _ => ?_)
  have e1 : IntKind.u64.wrap n = n := by rw [wrap_u64]; omega
  refine And.intro (show IntKind.u64.wrap n ≠ 0 by rw [e1]; omega) ?_
  have h0 : 0 ≤ IntKind.u64.wrap x := by rw [wrap_u64]; omega
  have h1 : 0 ≤ (IntKind.u64.wrap x).tmod n ∧ (IntKind.u64.wrap x).tmod n < n := ⟨Int.tmod_nonneg _ h0, Int.tmod_lt_of_pos _ (by omega)⟩
  refine ⟨((IntKind.u64.wrap x).tmod n).toNat, ?_, by omega, rfl⟩
  show Ending.returned (.int .i64 (IntKind.i64.wrap ((IntKind.u64.wrap x).tmod (IntKind.u64.wrap n)))) = _
  rw [e1, wrap_i64 (by omega) (by omega), Int.toNat_of_nonneg h1.1]

/-! ### The plain form -/
def tblP : List Cs := [⟨26, 21⟩, ⟨30, 22⟩, ⟨42, 25⟩, ⟨59, 54⟩, ⟨63, 55⟩, ⟨75, 58⟩]
theorem Plain_ok (p op a b : Int) (v : Value) (w : World) (h : 2 ≤ op ∧ op ≤ 8) (hv : v.oneCell' = true) :
    Calls Try.prog 51 #[.agg (insC ⟨p, op, a, b, []⟩ v).toArray] w fun e w' => e = .returned (.agg (insC ⟨p, 17, op - 3, b, []⟩ v).toArray) ∧ New w w' := by
  refine enter ok Try.func51 rfl rfl rfl ?_
  refine seq_cut (σ := Unit) (fun _ => [(1, .pointer (some ⟨w.heap.size, 0, none⟩)), (2, .pointer (some ⟨w.heap.size + 1, 0, none⟩))]) (fun _ w' => New w w' ∧ w'.heap[w.heap.size]? = some (.cells (insC ⟨p, op, a, b, []⟩ v).toArray 62 (0, 0)) ∧ w'.heap[w.heap.size + 1]? = some (.cells (insC ⟨0, 0, 0, 0, []⟩ nilC).toArray 62 (0, 0)) ∧ w.heap.size + 2 ≤ w'.heap.size) ?_ ?_
  rotate_left
  · intro K hK
    have n1 := New.alloc w (.cells (insC ⟨p, op, a, b, []⟩ v).toArray 62)
    have n2 := New.alloc (w.alloc (.cells (insC ⟨p, op, a, b, []⟩ v).toArray 62)) (.cells (insC ⟨0, 0, 0, 0, []⟩ nilC).toArray 62)
    have s1 : (w.alloc (.cells (insC ⟨p, op, a, b, []⟩ v).toArray 62)).heap.size = w.heap.size + 1 := by simp
    have hb2 := heap_alloc_new (w.alloc (.cells (insC ⟨p, op, a, b, []⟩ v).toArray 62)) (.cells (insC ⟨0, 0, 0, 0, []⟩ nilC).toArray 62)
    rw [s1] at hb2
    have s2 : ((w.alloc (.cells (insC ⟨p, op, a, b, []⟩ v).toArray 62)).alloc (.cells (insC ⟨0, 0, 0, 0, []⟩ nilC).toArray 62)).heap.size = w.heap.size + 2 := by simp
    exact hK () _ _ ⟨rfl, (show Value.pointer (some ⟨(w.alloc (.cells (insC ⟨p, op, a, b, []⟩ v).toArray 62)).heap.size, 0, none⟩) = _ by rw [s1]), trivial⟩ ⟨n1.trans n2, n2.blk (heap_alloc_new w _), hb2, Nat.le_of_eq s2.symm⟩
  rintro _ w1 fr1 ⟨n1, hI1, hZ1, z1⟩
  refine seq_cut (σ := Unit) (fun _ => [(1, .pointer (some ⟨w.heap.size, 0, none⟩)), (2, .pointer (some ⟨w.heap.size + 1, 0, none⟩)), (3, .int .i64 op)]) (fun _ w' => w' = w1) ?_ ?_
  rotate_left
  · intro K hK
    refine Exists.intro op (And.intro (cellB hI1 rfl) ?_)
    exact hK () _ _ ⟨rfl, rfl, rfl, trivial⟩ rfl
  rintro _ w1' fr2 rfl
  refine seq_cut (σ := Unit) (fun _ => [(1, .pointer (some ⟨w.heap.size, 0, none⟩)), (2, .pointer (some ⟨w.heap.size + 1, 0, none⟩)), (3, .int .i64 op)]) (fun _ w' => New w w' ∧ w'.heap[w.heap.size]? = some (.cells (insC ⟨p, 17, op - 3, b, []⟩ v).toArray 62 (0, 0)) ∧ w'.heap[w.heap.size + 1]? = some (.cells (insC ⟨0, 0, 0, 0, []⟩ nilC).toArray 62 (0, 0)) ∧ w.heap.size + 2 ≤ w'.heap.size) ?_ ?_
  rotate_left
  · intro K hK
    refine if_p (fun _ => ?_) (fun h2 => absurd h.1 h2)
    refine if_p (fun _ => ?_) (fun h8 => absurd h.2 h8)
    refine And.intro ⟨_, cellB hI1 rfl⟩ (And.intro (fzB hI1 _) (force_ ?_))
    refine stK hI1 (show (1 : Nat) < 5 by decide) ?_
    intro w2 hI2 m2 s2
    refine And.intro ⟨_, cellB hI2 rfl⟩ (And.intro (fzB hI2 _) (force_ ?_))
    refine stK hI2 (show (2 : Nat) < 5 by decide) ?_
    intro w3 hI3 m3 s3
    replace hI3 : w3.heap[w.heap.size]? = some (.cells (insC ⟨p, 17, IntKind.i64.wrap (op - 3), b, []⟩ v).toArray 62 (0, 0)) := hI3
    rw [wrap_i64 (by omega) (by omega)] at hI3
    exact hK () _ _ ⟨rfl, rfl, rfl, trivial⟩ ⟨Mod.trans n1 (both m2 m3) fun b hb e => by omega, hI3, m3.blk (m2.blk hZ1 (by omega)) (by omega), by omega⟩
  rintro _ w2 fr3 ⟨n2, hI2, hZ2, z2⟩
  refine seq_cut (σ := Unit) (fun _ => [(1, .pointer (some ⟨w.heap.size, 0, none⟩)), (2, .pointer (some ⟨w.heap.size + 1, 0, none⟩))]) (fun _ w' => New w2 w') ?_ ?_
  rotate_left
  · intro K hK
    have nT := New.alloc w2 (.cells (csF tblP).toArray 121)
    have hT := heap_alloc_new w2 (.cells (csF tblP).toArray 121)
    refine den_loop (σ := Nat) (fun i => [(1, .pointer (some ⟨w.heap.size, 0, none⟩)), (2, .pointer (some ⟨w.heap.size + 1, 0, none⟩)), (3, .int .i64 op), (38, .slice (some ⟨w2.heap.size, 0, none⟩) 6 6), (39, .int .i64 6), (40, .int .i64 (i : Int))]) (fun m i wl => m + i = 6 ∧ New w2 wl ∧ wl.heap[w2.heap.size]? = some (.cells (csF tblP).toArray 121 (0, 0))) 6 0
      ⟨rfl, rfl, rfl, rfl, rfl, rfl, trivial⟩ ⟨rfl, nT, hT⟩ ?_
    rintro m i wl frl ⟨hfuel, kl, hTl⟩
    refine if_p (fun hlt => ?_) (fun hge => ?_)
    · replace hlt : (i : Int) < 6 := hlt
      obtain ⟨m, rfl⟩ : ∃ m', m = m' + 1 := ⟨m - 1, by omega⟩
      have inc : Value.int .i64 (IntKind.i64.wrap ((i : Int) + 1)) = .int .i64 ((i + 1 : Nat) : Int) := by
        rw [wrap_i64 (by omega) (by omega)]
        rfl
      have hi : i < tblP.length := by show i < 6; omega
      have hrow : Row wl (some ⟨w2.heap.size, 0, none⟩) (csF tblP) := fun j u hu => ⟨_, rfl, cellB hTl (by simpa using hu)⟩
      obtain ⟨aT, eT, hcT⟩ := csF_row hrow hi
      cases eT
      have hkey : 26 ≤ tblP[i].key := by
        have all : ∀ c ∈ tblP, 26 ≤ c.key := by decide
        exact all _ (List.getElem_mem hi)
      refine And.intro (by omega) (And.intro hlt ?_)
      refine loadN_row (vs := csC tblP[i]) (fun k u hu => by rw [Int.toNat_natCast]; exact hcT k u hu) rfl ?_
      refine And.intro rfl ?_
      refine storeNew (vs := csC tblP[i]) (arr := #[.int .i64 0, .int .i64 0]) rfl (csC_one _) ?_
      intro w4 hb4 n4 s4
      refine And.intro (by omega) (And.intro (by omega) ?_)
      refine Exists.intro tblP[i].key (And.intro (cellB0 hb4 rfl) ?_)
      refine if_p (fun h1 => absurd (show tblP[i].key ≤ op from h1) (by omega)) (fun _ => ?_)
      exact ⟨m, i + 1, by omega, ⟨rfl, rfl, rfl, rfl, rfl, inc, trivial⟩, by omega, kl.trans n4, n4.blk hTl⟩
    · exact hK () _ _ ⟨rfl, rfl, trivial⟩ kl
  rintro _ w3 fr4 n3
  have hI3 := n3.blk hI2
  have hZ3 := n3.blk hZ2
  refine loadN_row (vs := insC ⟨p, 17, op - 3, b, []⟩ v) (rowB hI3) rfl ?_
  refine And.intro rfl ?_
  refine storeN_all (vs := insC ⟨p, 17, op - 3, b, []⟩ v) hZ3 rfl (insC_one _ hv) ?_
  intro w4 hZ4 m4 s4
  refine loadN_row (vs := insC ⟨p, 17, op - 3, b, []⟩ v) (rowB hZ4) rfl ?_
  exact ⟨rfl, Mod.trans (n2.trans n3) m4 fun b hb e => by omega⟩
end Go.Proofs.Ytcpeekeiflglpaa.Code
