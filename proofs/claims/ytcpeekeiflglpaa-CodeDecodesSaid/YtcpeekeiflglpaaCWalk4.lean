/- The package code, walked: an instruction is read. -/
import Derived.Test.YtcpeekeiflglpaaCWalk3
import Derived.Test.YtcpeekeiflglpaaRow2
namespace Go.Proofs.Ytcpeekeiflglpaa.Code
open Go Go.Proofs.Ytcpeekeiflglpaa Go.Proofs.Ytcpeekeiflglpaa.Eng Go.Proofs Go.Proofs.Ytcpeekeiflglpaa.Word
open Go.Proofs.Ytcpeekeiflglpaa.Pool (numR numR_err rd_modN rd_low RS both own_low)
set_option maxRecDepth 10000

theorem form_le (op : Int) : form op ≤ 9 := by
  unfold form
  repeat' split
  all_goals omega
def stepOp (bs : List UInt8) (i : Nat) (o : Bool × Nat) (t : Int × Int × Nat × Int) : Int × Int × Nat × Int :=
  if i = 0 then ((numR bs o.1 o.2 t.2.2).1, t.2.1, (numR bs o.1 o.2 t.2.2).2) else (t.1, (numR bs o.1 o.2 t.2.2).1, (numR bs o.1 o.2 t.2.2).2)
def opsR (bs : List UInt8) : List (Bool × Nat) → Nat → Int × Int × Nat × Int → Int × Int × Nat × Int
  | [], _, t => t
  | o :: l, i, t => opsR bs l (i + 1) (stepOp bs i o t)
theorem opR_is (bs : List UInt8) (p : Nat) (op : Int) (s : Nat × Int) (h0 : form op ≠ 0) (h8 : form op ≠ 8) (h9 : form op ≠ 9) :
    opR bs p op s = (⟨p, op, if form op = 7 then p + (opsR bs (opsOf (form op)) 0 (0, 0, s)).1 else (opsR bs (opsOf (form op)) 0 (0, 0, s)).1, (opsR bs (opsOf (form op)) 0 (0, 0, s)).2.1, []⟩, (opsR bs (opsOf (form op)) 0 (0, 0, s)).2.2) := by
  have hle := form_le op
  unfold opR
  generalize form op = f at h0 h8 h9 hle
  match f with
  | 1 => rfl
  | 2 => rfl
  | 3 => rfl
  | 4 => rfl
  | 5 => rfl
  | 6 => rfl
  | 7 => rfl
  | 8 => exact absurd rfl h8
  | 9 => exact absurd rfl h9
  | 0 => exact absurd rfl h0
  | n + 10 => omega
theorem opsOf_short (f : Nat) : (opsOf f).length ≤ 2 ∧ ∀ o ∈ opsOf f, o.2 = 1 ∨ o.2 = 2 := by
  unfold opsOf
  split <;> simp
theorem opV_row {w : World} {C : Option Addr} {g : Nat} {l : List (Bool × Nat)} (h : Row w C (l.map (opV g)).flatten) {i : Nat} (hi : i < l.length) : ∃ a, C = some a ∧ ∀ k u, (opV g l[i])[k]? = some u → w.cell? ((a.add (i * 2)).add k) = some u := by
  have key : ∀ k u, (opV g l[i])[k]? = some u → ∃ a, C = some a ∧ w.cell? (a.add (i * 2 + k)) = some u := fun k u hu =>
    h (i * 2 + k) u (flat_join (sz := 2) (l.map (opV g)) i k (opV g l[i]) u (fun cs hcs => by
      obtain ⟨o, _, rfl⟩ := List.mem_map.1 hcs
      rfl) (by simp [hi]) hu)
  obtain ⟨a, ha, _⟩ := key 0 _ rfl
  refine ⟨a, ha, fun k u hu => ?_⟩
  obtain ⟨a', ha', hc⟩ := key k u hu
  rw [ha] at ha'
  cases ha'
  rw [add_add_]
  exact hc
theorem opV_one (g : Nat) (o : Bool × Nat) : ∀ v ∈ opV g o, v.oneCell' = true := by
  intro v hv
  simp only [opV, List.mem_cons, List.not_mem_nil, or_false] at hv
  rcases hv with rfl | rfl <;> rfl

theorem one_ok (h g : Nat) (A : Option Addr) (c : Nat) (bs : List UInt8) (s : Nat × Int) (w : World) (r : Cr w h g A c bs s) (hm : bs.length ≤ 140737488355328) :
    Calls Try.prog 68 #[.pointer (some ⟨h, 0, none⟩)] w fun e w' => ∃ v, e = .returned (.agg (insC (oneR bs s).1 v).toArray) ∧
      w'.ownsRow w.heap.size 93 2 v (oneR bs s).1.cs.length (csF (oneR bs s).1.cs) ∧ Cr w' h g A c bs (oneR bs s).2 ∧ Mod (RS h g) w w' := by
  refine enter ok Try.func68 rfl rfl rfl ?_
  have hlow := r.low
  obtain ⟨hh, hg⟩ := r.lt
  have hat := r.rd.at_
  let Z := w.heap.size
  let X := w.heap.size + 1
  have hXR : ¬ RS h g (w.heap.size + 1) := by rintro (e | e) <;> omega
  have hZR : ¬ RS h g w.heap.size := by rintro (e | e) <;> omega
  refine seq_cut (σ := Unit) (fun _ => [(0, .pointer (some ⟨h, 0, none⟩)), (2, .pointer (some ⟨w.heap.size, 0, none⟩))])
    (fun _ w' => Cr w' h g A c bs s ∧ New w w' ∧ w'.heap.size = w.heap.size + 1 ∧ w'.heap[w.heap.size]? = some (.cells (insC ⟨0, 0, 0, 0, []⟩ nilC).toArray 62 (0, 0))) ?_ ?_
  rotate_left
  · intro K hK
    have n0 := New.alloc w (.cells (insC ⟨0, 0, 0, 0, []⟩ nilC).toArray 62)
    exact hK () _ _ ⟨rfl, rfl, trivial⟩ ⟨r.new n0, n0, by simp, heap_alloc_new w (.cells (insC ⟨0, 0, 0, 0, []⟩ nilC).toArray 62)⟩
  rintro _ w1 fr1 ⟨r1, n1, s1, hZ1⟩
  refine seq_cut (σ := Unit) (fun _ => [(0, .pointer (some ⟨h, 0, none⟩)), (2, .pointer (some ⟨w.heap.size, 0, none⟩)), (3, .pointer (some ⟨w.heap.size + 1, 0, none⟩))])
    (fun _ w' => Cr w' h g A c bs s ∧ New w w' ∧ w.heap.size + 2 ≤ w'.heap.size ∧ w'.heap[w.heap.size]? = some (.cells (insC ⟨0, 0, 0, 0, []⟩ nilC).toArray 62 (0, 0)) ∧ w'.heap[w.heap.size + 1]? = some (.cells (insC ⟨s.1, 0, 0, 0, []⟩ nilC).toArray 62 (0, 0))) ?_ ?_
  rotate_left
  · intro K hK
    refine Exists.intro (some ⟨g, 0, none⟩) (And.intro (cellB r1.blk rfl) ?_)
    refine call_ (At_ok g A c bs s.1 w1 r1.rd) ?_
    rintro e w2 ⟨rfl, hw2⟩
    obtain rfl := hw2.symm
    refine ⟨_, rfl, ?_⟩
    refine And.intro rfl ?_
    refine storeNew (vs := insC ⟨s.1, 0, 0, 0, []⟩ nilC) (arr := (insC ⟨0, 0, 0, 0, []⟩ nilC).toArray) rfl (insC_one _ rfl) ?_
    intro w3 hX3 n3 s3
    rw [s1] at hX3
    exact hK () _ _ ⟨rfl, rfl, (show Value.pointer (some ⟨w1.heap.size, 0, none⟩) = _ by rw [s1]), trivial⟩ ⟨r1.new n3, n1.trans n3, by omega, n3.blk hZ1, hX3⟩
  rintro _ w3 fr3 ⟨r3, n3, s3, hZ3, hX3⟩
  refine seq_cut (σ := Int × Nat × Int) (fun _ => [(0, .pointer (some ⟨h, 0, none⟩)), (2, .pointer (some ⟨w.heap.size, 0, none⟩)), (3, .pointer (some ⟨w.heap.size + 1, 0, none⟩))])
    (fun q w' => q = numR bs false 1 s ∧ Cr w' h g A c bs q.2 ∧ Mod (RS h g) w w' ∧ w.heap.size + 2 ≤ w'.heap.size ∧ w'.heap[w.heap.size]? = some (.cells (insC ⟨0, 0, 0, 0, []⟩ nilC).toArray 62 (0, 0)) ∧ w'.heap[w.heap.size + 1]? = some (.cells (insC ⟨s.1, q.1, 0, 0, []⟩ nilC).toArray 62 (0, 0))) ?_ ?_
  rotate_left
  · intro K hK
    refine Exists.intro (some ⟨g, 0, none⟩) (And.intro (cellB r3.blk rfl) ?_)
    refine call_ (get_ok h g A c bs s false 1 w3 r3) ?_
    rintro e w4 ⟨rfl, r4, m4⟩
    refine ⟨_, rfl, ?_⟩
    have hX4 := m4.blk hX3 hXR
    have hZ4 := m4.blk hZ3 hZR
    refine And.intro ⟨_, cellB hX4 rfl⟩ (And.intro (fzB hX4 _) (force_ ?_))
    refine stK hX4 (show (1 : Nat) < 5 by decide) ?_
    intro w5 hX5 m5 s5
    refine hK (numR bs false 1 s) _ _ ⟨rfl, rfl, rfl, trivial⟩ ⟨rfl, r4.modN m5 (by omega) (by omega) (fun a ha hn e => by have := hlow a ha hn; omega), ?_, ?_, m5.blk hZ4 (by omega), hX5⟩
    · exact Mod.trans (both n3.mod m4) m5 fun b hb e => by omega
    · have := m4.size
      omega
  rintro ⟨op, s5⟩ w5 fr5 ⟨hq, r5, k5, z5, hZ5, hX5⟩
  have hone : oneR bs s = opR bs s.1 op s5 := by
    unfold oneR
    rw [← hq]
  rw [hone]
  dsimp only at r5 hX5
  clear hq hone r1 n1 s1 hZ1 r3 n3 s3 hZ3 hX3
  refine seq_cut (σ := Unit) (fun _ => [(0, .pointer (some ⟨h, 0, none⟩)), (2, .pointer (some ⟨w.heap.size, 0, none⟩)), (3, .pointer (some ⟨w.heap.size + 1, 0, none⟩)), (4, .int .i64 (form op : Int))])
    (fun q w' => Cr w' h g A c bs s5 ∧ Mod (RS h g) w w' ∧ w.heap.size + 2 ≤ w'.heap.size ∧ w'.heap[w.heap.size]? = some (.cells (insC ⟨0, 0, 0, 0, []⟩ nilC).toArray 62 (0, 0)) ∧ w'.heap[w.heap.size + 1]? = some (.cells (insC ⟨s.1, op, 0, 0, []⟩ nilC).toArray 62 (0, 0))) ?_ ?_
  rotate_left
  · intro K hK
    refine Exists.intro op (And.intro (cellB hX5 rfl) ?_)
    refine call_ (formOf_ok op w5) ?_
    rintro e w6 ⟨rfl, n6⟩
    refine ⟨_, rfl, ?_⟩
    have := n6.size
    exact hK () _ _ ⟨rfl, rfl, rfl, rfl, trivial⟩ ⟨r5.new n6, both k5 n6.mod, by omega, n6.blk hZ5, n6.blk hX5⟩
  rintro _ w6 fr6 ⟨r6, k6, z6, hZ6, hX6⟩
  clear r5 k5 z5 hZ5 hX5
  -- the end: what was read is laid into the result, and read
  have fin : ∀ (y : Ins × Nat × Int) (v : Value) (w' w'' : World), opR bs s.1 op s5 = y → Cr w' h g A c bs y.2 → Mod (RX h g (w.heap.size + 1)) w w' → w'.ownsRow w.heap.size 93 2 v y.1.cs.length (csF y.1.cs) → (∀ b, v.ownBlock = some b → w.heap.size + 2 ≤ b) → Mod (fun b => b = w.heap.size) w' w'' →
      ∃ u, Ending.returned (.agg (insC y.1 v).toArray) = .returned (.agg (insC (opR bs s.1 op s5).1 u).toArray) ∧ w''.ownsRow w.heap.size 93 2 u (opR bs s.1 op s5).1.cs.length (csF (opR bs s.1 op s5).1.cs) ∧ Cr w'' h g A c bs (opR bs s.1 op s5).2 ∧ Mod (RS h g) w w'' := by
    intro y v w' w'' e r' k' o' hv m
    rw [e]
    refine ⟨v, rfl, own_mod m o' (fun b hb e => by have := hv b hb; omega), r'.modN m (by omega) (by omega) (fun a ha hn e => by have := hlow a ha hn; omega), Mod.trans (k'.mono fun b hb e => ?_) m fun b hb e => by omega⟩
    rcases e with e | e
    · exact e
    · omega
  have hX6a : ∀ a, A = some a → bs ≠ [] → a.block ≠ w.heap.size + 1 := fun a ha hn e => by have := hlow a ha hn; omega
  have nilOwn : ∀ w' : World, w'.ownsRow w.heap.size 93 2 nilC 0 (csF []) := fun _ => ⟨rfl, .inl ⟨rfl, rfl⟩⟩
  have nilBlk : ∀ b, nilC.ownBlock = some b → w.heap.size + 2 ≤ b := fun b hb => by cases hb
  refine seq_cut (σ := Unit) (fun _ => [(0, .pointer (some ⟨h, 0, none⟩)), (2, .pointer (some ⟨w.heap.size, 0, none⟩)), (3, .pointer (some ⟨w.heap.size + 1, 0, none⟩)), (4, .int .i64 (form op : Int))])
    (fun q w' => w' = w6 ∧ form op ≠ 0 ∧ form op ≠ 8 ∧ form op ≠ 9) ?_ ?_
  rotate_left
  · intro K hK
    refine if_p (fun h0 => ?_) (fun h0 => ?_)
    · replace h0 : (form op : Int) = 0 := h0
      have hb6 := r6.blk
      refine And.intro ⟨_, cellB hb6 rfl⟩ (And.intro (fzB hb6 _) (force_ ?_))
      refine stK hb6 (show (1 : Nat) < 2 by decide) ?_
      intro w7 hb7 m7 s7
      have hX7 := m7.blk hX6 (by omega)
      have hZ7 := m7.blk hZ6 (by omega)
      refine loadN_row (vs := insC ⟨s.1, op, 0, 0, []⟩ nilC) (rowB hX7) rfl ?_
      refine And.intro rfl ?_
      refine storeN_all (vs := insC ⟨s.1, op, 0, 0, []⟩ nilC) hZ7 rfl (insC_one _ rfl) ?_
      intro w8 hZ8 m8 s8
      refine loadN_row (vs := insC ⟨s.1, op, 0, 0, []⟩ nilC) (rowB hZ8) rfl ?_
      refine fin (⟨s.1, op, 0, 0, []⟩, stopR 1 true s5) nilC w7 w8 ?_ ?_ ?_ (nilOwn w7) nilBlk m8
      · unfold opR
        rw [show form op = 0 by omega]
        rfl
      · have e : stopR 1 true s5 = (s5.1, (stopR 1 true s5).2) := Prod.ext stopR_fst rfl
        dsimp only
        rw [e]
        refine r6.set m7 _ hb7 ?_
        unfold stopR
        split
        · rename_i h1
          rw [decide_eq_false h1]
          rfl
        · rfl
      · exact Mod.trans (k6.mono fun _ _ e => .inl e) m7 fun _ _ e => .inl (.inr e)
    replace h0 : ¬ (form op : Int) = 0 := h0
    refine seq_cut (σ := Unit) (fun _ => [(0, .pointer (some ⟨h, 0, none⟩)), (2, .pointer (some ⟨w.heap.size, 0, none⟩)), (3, .pointer (some ⟨w.heap.size + 1, 0, none⟩)), (4, .int .i64 (form op : Int)), (32, .bool (decide (form op = 8 ∨ form op = 9)))]) (fun _ w' => w' = w6) ?_ ?_
    rotate_left
    · intro K2 hK2
      refine if_p (fun h8 => ?_) (fun h8 => ?_)
      · replace h8 : (form op : Int) = 8 := h8
        exact hK2 () _ _ ⟨rfl, rfl, rfl, rfl, (show Value.bool (decide ((form op : Int) = 8)) = _ by rw [decide_eq_true h8, decide_eq_true (show form op = 8 ∨ form op = 9 by omega)]), trivial⟩ rfl
      · replace h8 : ¬ (form op : Int) = 8 := h8
        refine hK2 () _ _ ⟨rfl, rfl, rfl, rfl, (show Value.bool (decide ((form op : Int) = 9)) = .bool (decide (form op = 8 ∨ form op = 9)) from ?_), trivial⟩ rfl
        congr 1
        exact decide_eq_decide.2 (by omega)
    rintro _ w' fr' rfl
    refine if_p (fun h8 => ?_) (fun h8 => ?_)
    · replace h8 : form op = 8 ∨ form op = 9 := h8
      refine call_ (cases_ok h g (w.heap.size + 1) A c bs s5 s.1 op (form op : Int) (decide (form op = 9)) w' (by
        rcases h8 with h8 | h8
        · exact .inl ⟨by omega, decide_eq_false (by omega)⟩
        · exact .inr ⟨by omega, decide_eq_true h8⟩) r6 hX6 (by omega) (by omega) hX6a (by omega)) ?_
      rintro e w7 ⟨rfl, v, hX7, own7, r7, m7⟩
      refine ⟨_, rfl, ?_⟩
      have hov : ∀ b, v.ownBlock = some b → w.heap.size + 2 ≤ b := fun b hb => Nat.le_trans z6 (own7.lt b hb).1
      have hZ7 := m7.blk hZ6 (by
        rintro (e | e)
        · exact hZR e
        · omega)
      have own7' : w7.ownsRow w.heap.size 93 2 v (casesR bs (decide (form op = 9)) s.1 op s5).1.cs.length (csF (casesR bs (decide (form op = 9)) s.1 op s5).1.cs) := own_low own7 (Nat.le_trans (by omega) z6)
      have hv1 : v.oneCell' = true := by
        obtain ⟨A', c', e', _⟩ := own_slice own7
        rw [e']
        rfl
      refine loadN_row (vs := insC (casesR bs (decide (form op = 9)) s.1 op s5).1 v) (rowB hX7) rfl ?_
      refine And.intro rfl ?_
      refine storeN_all (vs := insC (casesR bs (decide (form op = 9)) s.1 op s5).1 v) hZ7 rfl (insC_one _ hv1) ?_
      intro w8 hZ8 m8 s8
      refine loadN_row (vs := insC (casesR bs (decide (form op = 9)) s.1 op s5).1 v) (rowB hZ8) rfl ?_
      refine fin (casesR bs (decide (form op = 9)) s.1 op s5) v w7 w8 ?_ r7 (both (k6.mono fun _ _ e => .inl e) m7) own7' hov m8
      unfold opR
      rcases h8 with h8 | h8
      · rw [h8]
        rfl
      · rw [h8]
        rfl
    · replace h8 : ¬ (form op = 8 ∨ form op = 9) := h8
      exact hK () _ _ ⟨rfl, rfl, rfl, rfl, trivial⟩ ⟨rfl, by omega, by omega, by omega⟩
  rintro _ w7 fr7 ⟨rfl, h0, h8, h9⟩
  have his := opR_is bs s.1 op s5 h0 h8 h9
  have hshort := opsOf_short (form op)
  refine seq_cut (σ := Nat) (fun T => [(0, .pointer (some ⟨h, 0, none⟩)), (2, .pointer (some ⟨w.heap.size, 0, none⟩)), (3, .pointer (some ⟨w.heap.size + 1, 0, none⟩)), (4, .int .i64 (form op : Int)), (5, .slice (some ⟨T, 0, none⟩) 2 2)])
    (fun T w' => Cr w' h g A c bs s5 ∧ Mod (RS h g) w w' ∧ w.heap.size + 2 ≤ T ∧ T < w'.heap.size ∧ w'.heap[w.heap.size]? = some (.cells (insC ⟨0, 0, 0, 0, []⟩ nilC).toArray 62 (0, 0)) ∧ w'.heap[w.heap.size + 1]? = some (.cells (insC ⟨s.1, op, 0, 0, []⟩ nilC).toArray 62 (0, 0)) ∧
      w'.heap[T]? = some (.cells #[.pointer (some ((⟨w.heap.size + 1, 0, none⟩ : Addr).add 2)), .pointer (some ((⟨w.heap.size + 1, 0, none⟩ : Addr).add 3))] 138 (0, 0))) ?_ ?_
  rotate_left
  · intro K hK
    have n8 := New.alloc w7 (.cells #[.pointer (some ((⟨w.heap.size + 1, 0, none⟩ : Addr).add 2)), .pointer (some ((⟨w.heap.size + 1, 0, none⟩ : Addr).add 3))] 138)
    exact hK w7.heap.size _ _ ⟨rfl, rfl, rfl, rfl, rfl, trivial⟩ ⟨r6.new n8, both k6 n8.mod, z6, by simp, n8.blk hZ6, n8.blk hX6, heap_alloc_new w7 _⟩
  rintro T w8 fr8 ⟨r8, k8, hT0, hT1, hZ8, hX8, hT8⟩
  clear r6 k6 z6 hZ6 hX6
  have hTR : ¬ RS h g T := by rintro (e | e) <;> omega
  refine seq_cut (σ := Int × Int × Nat × Int) (fun _ => [(0, .pointer (some ⟨h, 0, none⟩)), (2, .pointer (some ⟨w.heap.size, 0, none⟩)), (3, .pointer (some ⟨w.heap.size + 1, 0, none⟩)), (4, .int .i64 (form op : Int))])
    (fun t w' => t = opsR bs (opsOf (form op)) 0 (0, 0, s5) ∧ Cr w' h g A c bs t.2.2 ∧ Mod (RX h g (w.heap.size + 1)) w w' ∧ w'.heap[w.heap.size]? = some (.cells (insC ⟨0, 0, 0, 0, []⟩ nilC).toArray 62 (0, 0)) ∧ w'.heap[w.heap.size + 1]? = some (.cells (insC ⟨s.1, op, t.1, t.2.1, []⟩ nilC).toArray 62 (0, 0))) ?_ ?_
  rotate_left
  · intro K hK
    refine call_ (ways_ok h g A c bs s5 (form op) w8 r8) ?_
    rintro e w9 ⟨C, q, rfl, rowC, n9, hCb⟩
    refine ⟨_, rfl, ?_⟩
    generalize opsOf (form op) = L at hK rowC hshort
    have n9s := n9.size
    refine den_loop (σ := Nat × Int × Int × Nat × Int) (fun t => [(0, .pointer (some ⟨h, 0, none⟩)), (2, .pointer (some ⟨w.heap.size, 0, none⟩)), (3, .pointer (some ⟨w.heap.size + 1, 0, none⟩)), (4, .int .i64 (form op : Int)), (5, .slice (some ⟨T, 0, none⟩) 2 2), (44, .slice C L.length q), (45, .int .i64 (L.length : Int)), (46, .int .i64 (t.1 : Int))])
      (fun m t wl => m + t.1 = L.length ∧ opsR bs (L.drop t.1) t.1 t.2 = opsR bs L 0 (0, 0, s5) ∧ Cr wl h g A c bs t.2.2.2 ∧ Mod (fun b => RX h g (w.heap.size + 1) b) w9 wl ∧ wl.heap[w.heap.size + 1]? = some (.cells (insC ⟨s.1, op, t.2.1, t.2.2.1, []⟩ nilC).toArray 62 (0, 0))) L.length (0, 0, 0, s5)
      ⟨rfl, rfl, rfl, rfl, rfl, rfl, rfl, rfl, trivial⟩ ⟨rfl, rfl, r8.new n9, (New.refl _).mod, n9.blk hX8⟩ ?_
    rintro m ⟨i, a, b, st⟩ wl fr0 ⟨hfuel, hops, rl, kl, hXl⟩
    dsimp only at hfuel hops rl hXl
    have hnR : ∀ {b : Nat}, w.heap.size + 2 ≤ b → ¬ RX h g (w.heap.size + 1) b := fun {b} hb => by rintro ((e | e) | e) <;> omega
    have hTl := kl.blk (n9.blk hT8) (hnR hT0)
    have kls := kl.size
    refine if_p (fun hlt => ?_) (fun hge => ?_)
    · replace hlt : (i : Int) < (L.length : Int) := hlt
      have hiL : i < L.length := by omega
      have hi2 : i < 2 := by omega
      obtain ⟨m, rfl⟩ : ∃ m', m = m' + 1 := ⟨m - 1, by omega⟩
      obtain ⟨aC, hC, hcell⟩ := opV_row rowC hiL
      have hCa := hCb aC hC
      have hcl : ∀ k u, (opV g L[i])[k]? = some u → wl.cell? ((aC.add (i * 2)).add k) = some u := fun k u hu => kl.cell (hcell k u hu) (by
        rw [add_block, add_block]
        exact hnR (by omega))
      subst hC
      refine And.intro (by omega) (And.intro hlt ?_)
      refine loadN_row (vs := opV g L[i]) (fun k u hu => by rw [Int.toNat_natCast]; exact hcl k u hu) rfl ?_
      refine And.intro rfl ?_
      refine storeNew (vs := opV g L[i]) (arr := #[.nilFunc, .int .i64 0]) rfl (opV_one g _) ?_
      intro w13 hO13 n13 s13
      have hX13 := n13.blk hXl
      have hT13 := n13.blk hTl
      have r13 := rl.new n13
      let CC : World → Prop := fun w' => Mod (RS h g) w13 w' ∧ ∃ s', Cr w' h g A c bs s'
      have hOR : ¬ RS h g wl.heap.size := by rintro (e | e) <;> omega
      have inc : Value.int .i64 (IntKind.i64.wrap ((i : Int) + 1)) = .int .i64 ((i + 1 : Nat) : Int) := by
        rw [wrap_i64 (by omega) (by omega)]
        rfl
      refine draw_ (w := w13) ok (.q 0 (.q 1 (.q 2 (.q 3 (.q 4 (.q 5 (.q 6 (.q 7 (.q 8 (.e 9 (.q 10 (.e 11 .done)))))))))))) [11] CC (by kernel_rfl) (by kernel_rfl) (by kernel_rfl) (by kernel_rfl) (by kernel_rfl) ⟨(New.drew _).mod, st, r13.new (New.drew _)⟩ ?_
      refine And.intro (by omega) (And.intro (by omega) ?_)
      refine Exists.intro (some ((⟨w.heap.size + 1, 0, none⟩ : Addr).add (2 + i))) (And.intro (fun w'' hw => by
        rw [Int.toNat_natCast, Nat.mul_one]
        refine cellB (hw.1.blk hT13 hTR) ?_
        rcases (show i = 0 ∨ i = 1 by omega) with rfl | rfl <;> rfl) ?_)
      refine Exists.intro (wayV L[i].1 g) (And.intro (fun w'' hw => cellB (hw.1.blk hO13 hOR) rfl) ?_)
      refine Exists.intro (L[i].2 : Int) (And.intro (fun w'' hw => cellB (hw.1.blk hO13 hOR) rfl) ?_)
      refine call_ (get_ok h g A c bs st L[i].1 L[i].2 w13.drew (r13.new (New.drew _))) ?_
      rintro e w14 ⟨rfl, r14, m14⟩
      refine ⟨_, rfl, ?_⟩
      have k14 : Mod (RS h g) w13 w14 := both (New.drew _).mod m14
      refine Exists.intro CC (And.intro (fun _ h => h) (And.intro ⟨k14, _, r14⟩ ?_))
      have hX14 := k14.blk hX13 hXR
      have hops' : opsR bs (L.drop (i + 1)) (i + 1) (stepOp bs i L[i] (a, b, st)) = opsR bs L 0 (0, 0, s5) := by
        rw [← hops, List.drop_eq_getElem_cons hiL]
        rfl
      refine And.intro ⟨_, cellB hX14 (show (insC ⟨s.1, op, a, b, []⟩ nilC).toArray[2 + i]? = some (.int .i64 (if i = 0 then a else b)) by rcases (show i = 0 ∨ i = 1 by omega) with rfl | rfl <;> rfl)⟩ (And.intro (fzB hX14 _) (force_ ?_))
      refine stK hX14 (show 2 + i < 5 by omega) ?_
      intro w15 hX15 m15 s15
      have eX : (insC ⟨s.1, op, a, b, []⟩ nilC).toArray.setIfInBounds (2 + i) (.int .i64 (numR bs L[i].1 L[i].2 st).1) = (insC ⟨s.1, op, (stepOp bs i L[i] (a, b, st)).1, (stepOp bs i L[i] (a, b, st)).2.1, []⟩ nilC).toArray := by
        unfold stepOp
        rcases (show i = 0 ∨ i = 1 by omega) with rfl | rfl
        · rw [if_pos rfl]
          rfl
        · rw [if_neg (by decide)]
          rfl
      have eS : (stepOp bs i L[i] (a, b, st)).2.2 = (numR bs L[i].1 L[i].2 st).2 := by
        unfold stepOp
        split <;> rfl
      replace hX15 : w15.heap[w.heap.size + 1]? = some (.cells ((insC ⟨s.1, op, a, b, []⟩ nilC).toArray.setIfInBounds (2 + i) (.int .i64 (numR bs L[i].1 L[i].2 st).1)) 62 (0, 0)) := hX15
      rw [eX] at hX15
      refine ⟨m, (i + 1, stepOp bs i L[i] (a, b, st)), by omega, ⟨rfl, rfl, rfl, rfl, rfl, rfl, rfl, inc, trivial⟩, by dsimp only; omega, hops', ?_, ?_, hX15⟩
      · dsimp only
        rw [eS]
        exact r14.modN m15 (by omega) (by omega) (fun a ha hn e => by have := hlow a ha hn; omega)
      · exact Mod.trans (Mod.trans kl (both n13.mod k14) fun b hb e => .inl e) m15 fun b hb e => .inr e
    · replace hge : ¬ (i : Int) < (L.length : Int) := hge
      obtain rfl : i = L.length := by omega
      rw [List.drop_length] at hops
      exact hK (a, b, st) _ _ ⟨rfl, rfl, rfl, rfl, trivial⟩ ⟨hops, rl, Mod.trans (both k8 n9.mod |>.mono fun _ _ e => .inl e) kl fun _ _ e => e, kl.blk (n9.blk hZ8) (by rintro ((e | e) | e) <;> omega), hXl⟩
  rintro ⟨a, b, st⟩ w10 fr10 ⟨hops, r10, k10, hZ10, hX10⟩
  rw [← hops] at his
  dsimp only at his r10 hX10
  clear hops
  refine seq_cut (σ := Unit) (fun _ => [(0, .pointer (some ⟨h, 0, none⟩)), (2, .pointer (some ⟨w.heap.size, 0, none⟩)), (3, .pointer (some ⟨w.heap.size + 1, 0, none⟩))])
    (fun _ w' => Cr w' h g A c bs st ∧ Mod (RX h g (w.heap.size + 1)) w w' ∧ w'.heap[w.heap.size]? = some (.cells (insC ⟨0, 0, 0, 0, []⟩ nilC).toArray 62 (0, 0)) ∧ w'.heap[w.heap.size + 1]? = some (.cells (insC ⟨s.1, op, if form op = 7 then s.1 + a else a, b, []⟩ nilC).toArray 62 (0, 0))) ?_ ?_
  rotate_left
  · intro K hK
    refine if_p (fun h7 => ?_) (fun h7 => ?_)
    · replace h7 : (form op : Int) = 7 := h7
      have h7' : form op = 7 := by omega
      rw [if_pos h7'] at hK his
      have ha : a = (numR bs true 2 s5).1 := by
        have e1 : opR bs s.1 op s5 = (⟨s.1, op, s.1 + (numR bs true 2 s5).1, 0, []⟩, (numR bs true 2 s5).2) := by
          unfold opR
          rw [h7']
          rfl
        rw [e1] at his
        have := (Prod.mk.inj his).1
        have := (Ins.mk.inj this).2.2.1
        omega
      have hbd := numR_bound bs true 2 s5 (by omega)
      refine Exists.intro a (And.intro (cellB hX10 rfl) ?_)
      refine Exists.intro (s.1 : Int) (And.intro (cellB hX10 rfl) ?_)
      refine And.intro ⟨_, cellB hX10 rfl⟩ (And.intro (fzB hX10 _) (force_ ?_))
      refine stK hX10 (show (2 : Nat) < 5 by decide) ?_
      intro w11 hX11 m11 s11
      rw [wrap_i64 (show -9223372036854775808 ≤ a + (s.1 : Int) by omega) (by omega), Int.add_comm] at hX11
      exact hK () _ _ ⟨rfl, rfl, rfl, trivial⟩ ⟨r10.modN m11 (by omega) (by omega) (fun a ha hn e => by have := hlow a ha hn; omega), Mod.trans k10 m11 fun b hb e => .inr e, m11.blk hZ10 (by omega), hX11⟩
    · replace h7 : ¬ (form op : Int) = 7 := h7
      exact hK () _ _ ⟨rfl, rfl, rfl, trivial⟩ ⟨r10, k10, hZ10, by rw [if_neg (show ¬ form op = 7 by omega)]; exact hX10⟩
  rintro _ w11 fr11 ⟨r11, k11, hZ11, hX11⟩
  refine loadN_row (vs := insC ⟨s.1, op, if form op = 7 then s.1 + a else a, b, []⟩ nilC) (rowB hX11) rfl ?_
  refine And.intro rfl ?_
  refine storeN_all (vs := insC ⟨s.1, op, if form op = 7 then s.1 + a else a, b, []⟩ nilC) hZ11 rfl (insC_one _ rfl) ?_
  intro w12 hZ12 m12 s12
  refine loadN_row (vs := insC ⟨s.1, op, if form op = 7 then s.1 + a else a, b, []⟩ nilC) (rowB hZ12) rfl ?_
  exact fin (⟨s.1, op, if form op = 7 then s.1 + a else a, b, []⟩, st) nilC w11 w12 his r11 k11 (nilOwn w11) nilBlk m12
end Go.Proofs.Ytcpeekeiflglpaa.Code
