/- The package pool, walked: what entries mean. (Printed by gen5.py.) -/
import Derived.Test.YtbmlfbcanjobfaaPWalk4
import Derived.Test.YtbmlfbcanjobfaaArr
namespace Go.Proofs.Ytbmlfbcanjobfaa.Pool
open Go Go.Proofs.Ytbmlfbcanjobfaa Go.Proofs.Ytbmlfbcanjobfaa.Eng Go.Proofs
set_option maxRecDepth 10000

def conZ : Array Value := #[.int .i64 0, .int .i64 0, .string ⟨#[]⟩, .string ⟨#[]⟩, .string ⟨#[]⟩]
theorem conCs_one (c : Con) : ∀ u ∈ conCs c, u.oneCell' = true := by
  intro u hu
  simp [conCs] at hu
  rcases hu with rfl | rfl | rfl | rfl | rfl <;> rfl
theorem mean_none {l : List Ent} {i : Int} (h3 : ¬ tagAt l i = 3) (h5 : ¬ tagAt l i = 5) (h7 : ¬ tagAt l i = 7) (h9 : ¬ tagAt l i = 9) (h10 : ¬ tagAt l i = 10) : mean l i = c0 := by
  unfold mean
  rw [if_neg (fun h => h.elim h3 h5), if_neg h7, if_neg (fun h => h.elim h9 h10)]
theorem mean_num {l : List Ent} {i : Int} (h : tagAt l i = 3 ∨ tagAt l i = 5) : mean l i = ⟨tagAt l i, (at_ l i).n, [], [], []⟩ := by
  unfold mean
  rw [if_pos h]
theorem mean_cls {l : List Ent} {i : Int} (h : tagAt l i = 7) : mean l i = ⟨tagAt l i, 0, (at_ l (at_ l i).a).text, [], []⟩ := by
  unfold mean
  rw [if_neg (by rw [h]; decide), if_pos h]
theorem mean_mem {l : List Ent} {i : Int} (h : tagAt l i = 9 ∨ tagAt l i = 10) : mean l i = ⟨tagAt l i, 0, (at_ l (at_ l (at_ l i).a).a).text, (at_ l (at_ l (at_ l i).b).a).text, (at_ l (at_ l (at_ l i).b).b).text⟩ := by
  unfold mean
  rw [if_neg (by omega), if_neg (by omega), if_pos h]
/-- What an entry leads to. -/
theorem ref_at {l : List Ent} {w : World} {A : Option Addr} {n : Nat} (h : Pl w A n l) {i t : Int} (ht : t ≠ 0) (hi : tagAt l i = t) : ∃ (k : Nat) (a : Addr), i = k ∧ k < n ∧ A = some a ∧ (at_ l k).tag = t ∧ EntOk (at_ l k) ∧ ∀ j u, (entC (at_ l k))[j]? = some u → w.cell? ((a.add (k * 5)).add j) = some u := by
  obtain ⟨k, rfl, hk, ht'⟩ := tag_in ht hi
  have hkn : k < n := by rw [h.len]; exact hk
  obtain ⟨a, ha, ho, hc⟩ := h.at_ hkn
  exact ⟨k, a, rfl, hkn, ha, ht', ho, hc⟩
theorem meanG (A : Option Addr) (n c : Nat) (l : List Ent) (i : Int) (w : World) (h : Pl w A n l) (hp : Okp l)
    (hrec : (tagAt l i = 9 ∨ tagAt l i = 10) → ∀ (j : Int) (w' : World), Pl w' A n l → tagAt l j = 7 → Calls Try.prog 35 #[.slice A n c, .int .i64 j] w' fun e w'' => e = .returned (conV (mean l j)) ∧ New w' w'') :
    Calls Try.prog 35 #[.slice A n c, .int .i64 i] w fun e w' => e = .returned (conV (mean l i)) ∧ New w w' := by
  refine enter ok Try.func35 rfl rfl rfl ?_
  have htop := h.top
  have hb0' := heap_alloc_new w (.cells conZ 24)
  refine call_ (tag_ok A n c l i (w.alloc (.cells conZ 24)) (h.new (New.alloc w _))) ?_
  rintro e w0 ⟨rfl, hw0⟩
  have n0 : New w w0 := hw0 ▸ New.alloc w (.cells conZ 24)
  have hb0 : w0.heap[w.heap.size]? = some (.cells conZ 24 (0, 0)) := hw0 ▸ hb0'
  have hs0 : w0.heap.size = w.heap.size + 1 := by rw [hw0]; simp
  clear hw0 hb0'
  refine ⟨_, rfl, ?_⟩
  refine if_p (fun h0 => ?_) (fun h0 => ?_)
  · replace h0 : tagAt l i = 0 := h0
    rw [mean_none (by omega) (by omega) (by omega) (by omega) (by omega)]
    refine And.intro rfl ?_
    refine storeN_all (vs := conCs c0) hb0 rfl (conCs_one c0) ?_
    intro w9 hb9 m9 s9
    refine loadN_row (vs := conCs c0) (rowB hb9) rfl ?_
    exact ⟨rfl, n0.st m9 (Nat.le_refl _)⟩
  replace h0 : ¬ tagAt l i = 0 := h0
  obtain ⟨k, a, rfl, hk, rfl, htk, hok, hc⟩ := ref_at h h0 rfl
  have hkl : k < l.length := by rw [← h.len]; exact hk
  obtain ⟨_, hfit⟩ := tag_right hp hkl (by rw [htk]; exact h0)
  have hdem := fits_demand hfit
  refine And.intro (by omega) (And.intro (by omega) ?_)
  refine loadN_row (vs := entC (at_ l k)) (fun j u hu => by rw [Int.toNat_natCast]; exact n0.cell (hc j u hu)) rfl ?_
  have hmn := fun h => mean_num (l := l) (i := k) h
  have hmc := fun h => mean_cls (l := l) (i := k) h
  have hmm := fun h => mean_mem (l := l) (i := k) h
  have hm0 := fun h1 h2 h3 h4 h5 => mean_none (l := l) (i := k) h1 h2 h3 h4 h5
  generalize tagAt l k = t at htk h0 hmn hmc hmm hm0 hrec
  generalize at_ l k = x at hok hc htk hdem hmn hmc hmm
  refine And.intro rfl ?_
  refine storeNew (vs := entC x) (arr := entZ) rfl (entC_one x) ?_
  intro w2 hb2 n2 s2
  have k2 := n0.trans n2
  have hb02 := n2.blk hb0
  have num : t = 3 ∨ t = 5 → ∀ {K : World → Prop}, (∀ w9, w9.heap[w.heap.size]? = some (.cells (conCs (mean l k)).toArray 24 (0, 0)) → New w w9 → K w9) → storeN ⟨w.heap.size, 0, none⟩ (conCs ⟨t, x.n, [], [], []⟩) 0 w2 K := fun ht K hK => by
    rw [← hmn ht]
    refine storeN_all (vs := conCs (mean l k)) hb02 rfl (conCs_one _) ?_
    intro w9 hb9 m9 s9
    exact hK w9 hb9 (k2.st m9 (Nat.le_refl _))
  refine if_p (fun h3 => ?_) (fun h3 => ?_)
  · refine if_p (fun _ => ?_) (fun h3' => absurd h3 h3')
    refine Exists.intro x.n (And.intro (cellB hb2 rfl) ?_)
    refine And.intro rfl ?_
    refine num (.inl h3) ?_
    intro w9 hb9 k9
    refine loadN_row (vs := conCs (mean l k)) (rowB hb9) rfl ?_
    exact ⟨rfl, k9⟩
  refine if_p (fun h5 => ?_) (fun h5 => ?_)
  · refine Exists.intro x.n (And.intro (cellB hb2 rfl) ?_)
    refine And.intro rfl ?_
    refine num (.inr h5) ?_
    intro w9 hb9 k9
    refine loadN_row (vs := conCs (mean l k)) (rowB hb9) rfl ?_
    exact ⟨rfl, k9⟩
  clear num
  refine if_p (fun h7 => ?_) (fun h7 => ?_)
  · replace h7 : t = 7 := h7
    obtain ⟨k1, a1, hk1, hl1, ha1, _, ho1, hc1⟩ := ref_at h (by decide) (demand_class hdem (by rw [htk, h7]))
    cases ha1
    refine Exists.intro x.a (And.intro (cellB hb2 rfl) ?_)
    rw [hmc h7, hk1]
    refine And.intro (by omega) (And.intro (by omega) ?_)
    refine Exists.intro (⟨(at_ l k1).text.toArray⟩ : ByteArray) (And.intro (by rw [Int.toNat_natCast]; exact k2.cell (hc1 1 _ rfl)) ?_)
    refine And.intro rfl ?_
    refine storeN_all (vs := conCs ⟨t, 0, (at_ l k1).text, [], []⟩) hb02 rfl (conCs_one _) ?_
    intro w9 hb9 m9 s9
    refine loadN_row (vs := conCs ⟨t, 0, (at_ l k1).text, [], []⟩) (rowB hb9) rfl ?_
    exact ⟨rfl, k2.st m9 (Nat.le_refl _)⟩
  replace h3 : ¬ t = 3 := h3
  replace h5 : ¬ t = 5 := h5
  replace h7 : ¬ t = 7 := h7
  refine seq_cut (σ := Unit) (fun _ => [(0, .slice (some a) n c), (4, .pointer (some ⟨w.heap.size, 0, none⟩)), (5, .int .i64 t), (6, .pointer (some ⟨w0.heap.size, 0, none⟩)), (37, .bool (decide (t = 9 ∨ t = 10)))]) (fun _ w' => w' = w2) ?_ ?_
  rotate_left
  · intro K hK
    refine if_p (fun h9 => ?_) (fun h9 => ?_)
    · exact hK () _ _ ⟨rfl, rfl, rfl, rfl, (show Value.bool (decide (t = 9)) = .bool (decide (t = 9 ∨ t = 10)) by rw [decide_eq_true (show t = 9 from h9), decide_eq_true (show t = 9 ∨ t = 10 from .inl h9)]), trivial⟩ rfl
    · refine hK () _ _ ⟨rfl, rfl, rfl, rfl, (show Value.bool (decide (t = 10)) = .bool (decide (t = 9 ∨ t = 10)) from ?_), trivial⟩ rfl
      replace h9 : ¬ t = 9 := h9
      congr 1
      by_cases h10 : t = 10
      · rw [decide_eq_true h10, decide_eq_true (show t = 9 ∨ t = 10 from .inr h10)]
      · rw [decide_eq_false h10, decide_eq_false (show ¬ (t = 9 ∨ t = 10) from fun h => h.elim h9 h10)]
  rintro _ w' fr1 rfl
  refine if_p (fun hm => ?_) (fun hno => ?_)
  rotate_left
  · rw [hm0 h3 h5 h7 (fun h => hno (.inl h)) (fun h => hno (.inr h))]
    refine And.intro rfl ?_
    refine storeN_all (vs := conCs c0) hb02 rfl (conCs_one c0) ?_
    intro w9 hb9 m9 s9
    refine loadN_row (vs := conCs c0) (rowB hb9) rfl ?_
    exact ⟨rfl, k2.st m9 (Nat.le_refl _)⟩
  obtain ⟨r7, r12⟩ := demand_ref hdem (by rw [htk]; exact hm)
  obtain ⟨kb, ab, hkb, hlb, hab, htb, hob, hcb⟩ := ref_at h (by decide) r12
  cases hab
  have kd := New.drew w'
  have hs2 := n2.size
  refine seq_cut (σ := Nat × Nat) (fun g => [(0, .slice (some a) n c), (4, .pointer (some ⟨w.heap.size, 0, none⟩)), (5, .int .i64 t), (6, .pointer (some ⟨w0.heap.size, 0, none⟩)), (7, .pointer (some ⟨g.1, 0, none⟩)), (8, .pointer (some ⟨g.2, 0, none⟩))])
    (fun g wx => wx.heap[g.1]? = some (.cells (conCs (mean l x.a)).toArray 24 (0, 0)) ∧ wx.heap[g.2]? = some (.cells (entC (at_ l x.b)).toArray 67 (0, 0)) ∧ New w' wx) ?_ ?_
  rotate_left
  · intro K hK
    have hcall : ∀ wx, New w' wx → Calls Try.prog 35 #[.slice (some a) n c, .int .i64 x.a] wx fun e w'' => e = .returned (conV (mean l x.a)) ∧ New wx w'' := fun wx kx => hrec hm x.a wx (h.new (k2.trans kx)) r7
    refine draw_ (w := w') ok (.q 0 (.q 1 (.q 2 (.q 4 (.q 5 (.q 6 (.q 7 (.q 8 (.br (.br (.e 3 (.br (.e 9 (.e 10 (.e 11 (.e 12 .done)))) (.e 10 (.e 9 (.e 11 (.e 12 .done)))))) (.e 9 (.br (.e 3 (.e 10 (.e 11 (.e 12 .done)))) (.e 10 (.e 3 (.e 11 (.e 12 .done))))))) (.e 10 (.br (.e 3 (.e 9 (.e 11 (.e 12 .done)))) (.e 9 (.e 3 (.e 11 (.e 12 .done))))))))))))))) [12] (New w') (by kernel_rfl) (by kernel_rfl) (by kernel_rfl) (by kernel_rfl) (by kernel_rfl) kd ?_
    refine Exists.intro x.a (And.intro (fun w'' hw => cellB (hw.blk hb2) rfl) ?_)
    refine Exists.intro x.b (And.intro (fun w'' hw => cellB (hw.blk hb2) rfl) ?_)
    refine And.intro (by omega) (And.intro (by omega) ?_)
    refine loadNC_row (vs := entC (at_ l x.b)) (fun j u hu w'' hw => by rw [hkb] at hu ⊢; rw [Int.toNat_natCast]; exact (k2.trans hw).cell (hcb j u hu)) rfl ?_
    refine And.intro ?_ ?_
    · refine And.intro ?_ ?_
      · refine call_ (hcall w'.drew kd) ?_
        rintro e wc1 ⟨rfl, nc2⟩
        refine ⟨_, rfl, ?_⟩
        have kc3 := kd.trans nc2
        refine Exists.intro (New w') (And.intro (fun _ h => h) (And.intro kc3 ?_))
        refine And.intro ?_ ?_
        · have na6 := New.alloc (wc1) (.cells conZ 24)
          have kc4 := kc3.trans na6
          have hb5 := heap_alloc_new (wc1) (.cells conZ 24)
          have lhb5 := kc3.size
          refine Exists.intro (New w') (And.intro (fun _ h => h) (And.intro kc4 ?_))
          have na9 := New.alloc (((wc1).alloc (.cells conZ 24))) (.cells entZ 67)
          have kc7 := kc4.trans na9
          have hb8 := heap_alloc_new (((wc1).alloc (.cells conZ 24))) (.cells entZ 67)
          have hb10 := na9.blk hb5
          have lhb8 := kc4.size
          refine Exists.intro (New w') (And.intro (fun _ h => h) (And.intro kc7 ?_))
          have hne : (wc1).heap.size ≠ (((wc1).alloc (.cells conZ 24))).heap.size := by
            intro e
            have q7 := hb10
            rw [e, hb8] at q7
            cases q7
          refine And.intro rfl ?_
          refine storeN_all (vs := conCs (mean l x.a)) hb10 rfl (conCs_one _) ?_
          intro ws11 hs12 ms13 ss14
          have ks15 := kc7.st ms13 lhb5
          have hb16 := ms13.keep hb8 (Ne.symm hne)
          refine Exists.intro (New w') (And.intro (fun _ h => h) (And.intro ks15 ?_))
          refine And.intro rfl ?_
          refine storeN_all (vs := entC (at_ l x.b)) hb16 rfl (entC_one _) ?_
          intro wt17 ht18 mt19 st20
          exact hK ((wc1).heap.size, (((wc1).alloc (.cells conZ 24))).heap.size) _ _ ⟨rfl, rfl, rfl, rfl, rfl, rfl, trivial⟩ ⟨mt19.keep hs12 hne, ht18, ks15.st mt19 lhb8⟩
        · have na23 := New.alloc (wc1) (.cells entZ 67)
          have kc21 := kc3.trans na23
          have hb22 := heap_alloc_new (wc1) (.cells entZ 67)
          have lhb22 := kc3.size
          refine Exists.intro (New w') (And.intro (fun _ h => h) (And.intro kc21 ?_))
          have na26 := New.alloc (((wc1).alloc (.cells entZ 67))) (.cells conZ 24)
          have kc24 := kc21.trans na26
          have hb25 := heap_alloc_new (((wc1).alloc (.cells entZ 67))) (.cells conZ 24)
          have hb27 := na26.blk hb22
          have lhb25 := kc21.size
          refine Exists.intro (New w') (And.intro (fun _ h => h) (And.intro kc24 ?_))
          have hne : (((wc1).alloc (.cells entZ 67))).heap.size ≠ (wc1).heap.size := by
            intro e
            have q7 := hb25
            rw [e, hb27] at q7
            cases q7
          refine And.intro rfl ?_
          refine storeN_all (vs := conCs (mean l x.a)) hb25 rfl (conCs_one _) ?_
          intro ws28 hs29 ms30 ss31
          have ks32 := kc24.st ms30 lhb25
          have hb33 := ms30.keep hb27 (Ne.symm hne)
          refine Exists.intro (New w') (And.intro (fun _ h => h) (And.intro ks32 ?_))
          refine And.intro rfl ?_
          refine storeN_all (vs := entC (at_ l x.b)) hb33 rfl (entC_one _) ?_
          intro wt34 ht35 mt36 st37
          exact hK ((((wc1).alloc (.cells entZ 67))).heap.size, (wc1).heap.size) _ _ ⟨rfl, rfl, rfl, rfl, rfl, rfl, trivial⟩ ⟨mt36.keep hs29 hne, ht35, ks32.st mt36 lhb22⟩
      · have na40 := New.alloc (w'.drew) (.cells conZ 24)
        have kc38 := kd.trans na40
        have hb39 := heap_alloc_new (w'.drew) (.cells conZ 24)
        have lhb39 := kd.size
        refine Exists.intro (New w') (And.intro (fun _ h => h) (And.intro kc38 ?_))
        refine And.intro ?_ ?_
        · refine call_ (hcall ((w'.drew).alloc (.cells conZ 24)) kc38) ?_
          rintro e wc41 ⟨rfl, nc42⟩
          refine ⟨_, rfl, ?_⟩
          have kc43 := kc38.trans nc42
          have hb44 := nc42.blk hb39
          refine Exists.intro (New w') (And.intro (fun _ h => h) (And.intro kc43 ?_))
          have na47 := New.alloc (wc41) (.cells entZ 67)
          have kc45 := kc43.trans na47
          have hb46 := heap_alloc_new (wc41) (.cells entZ 67)
          have hb48 := na47.blk hb44
          have lhb46 := kc43.size
          refine Exists.intro (New w') (And.intro (fun _ h => h) (And.intro kc45 ?_))
          have hne : (w'.drew).heap.size ≠ (wc41).heap.size := by
            intro e
            have q7 := hb48
            rw [e, hb46] at q7
            cases q7
          refine And.intro rfl ?_
          refine storeN_all (vs := conCs (mean l x.a)) hb48 rfl (conCs_one _) ?_
          intro ws49 hs50 ms51 ss52
          have ks53 := kc45.st ms51 lhb39
          have hb54 := ms51.keep hb46 (Ne.symm hne)
          refine Exists.intro (New w') (And.intro (fun _ h => h) (And.intro ks53 ?_))
          refine And.intro rfl ?_
          refine storeN_all (vs := entC (at_ l x.b)) hb54 rfl (entC_one _) ?_
          intro wt55 ht56 mt57 st58
          exact hK ((w'.drew).heap.size, (wc41).heap.size) _ _ ⟨rfl, rfl, rfl, rfl, rfl, rfl, trivial⟩ ⟨mt57.keep hs50 hne, ht56, ks53.st mt57 lhb46⟩
        · have na61 := New.alloc (((w'.drew).alloc (.cells conZ 24))) (.cells entZ 67)
          have kc59 := kc38.trans na61
          have hb60 := heap_alloc_new (((w'.drew).alloc (.cells conZ 24))) (.cells entZ 67)
          have hb62 := na61.blk hb39
          have lhb60 := kc38.size
          refine Exists.intro (New w') (And.intro (fun _ h => h) (And.intro kc59 ?_))
          refine call_ (hcall ((((w'.drew).alloc (.cells conZ 24))).alloc (.cells entZ 67)) kc59) ?_
          rintro e wc63 ⟨rfl, nc64⟩
          refine ⟨_, rfl, ?_⟩
          have kc65 := kc59.trans nc64
          have hb66 := nc64.blk hb62
          have hb67 := nc64.blk hb60
          refine Exists.intro (New w') (And.intro (fun _ h => h) (And.intro kc65 ?_))
          have hne : (w'.drew).heap.size ≠ (((w'.drew).alloc (.cells conZ 24))).heap.size := by
            intro e
            have q7 := hb66
            rw [e, hb67] at q7
            cases q7
          refine And.intro rfl ?_
          refine storeN_all (vs := conCs (mean l x.a)) hb66 rfl (conCs_one _) ?_
          intro ws68 hs69 ms70 ss71
          have ks72 := kc65.st ms70 lhb39
          have hb73 := ms70.keep hb67 (Ne.symm hne)
          refine Exists.intro (New w') (And.intro (fun _ h => h) (And.intro ks72 ?_))
          refine And.intro rfl ?_
          refine storeN_all (vs := entC (at_ l x.b)) hb73 rfl (entC_one _) ?_
          intro wt74 ht75 mt76 st77
          exact hK ((w'.drew).heap.size, (((w'.drew).alloc (.cells conZ 24))).heap.size) _ _ ⟨rfl, rfl, rfl, rfl, rfl, rfl, trivial⟩ ⟨mt76.keep hs69 hne, ht75, ks72.st mt76 lhb60⟩
    · have na80 := New.alloc (w'.drew) (.cells entZ 67)
      have kc78 := kd.trans na80
      have hb79 := heap_alloc_new (w'.drew) (.cells entZ 67)
      have lhb79 := kd.size
      refine Exists.intro (New w') (And.intro (fun _ h => h) (And.intro kc78 ?_))
      refine And.intro ?_ ?_
      · refine call_ (hcall ((w'.drew).alloc (.cells entZ 67)) kc78) ?_
        rintro e wc81 ⟨rfl, nc82⟩
        refine ⟨_, rfl, ?_⟩
        have kc83 := kc78.trans nc82
        have hb84 := nc82.blk hb79
        refine Exists.intro (New w') (And.intro (fun _ h => h) (And.intro kc83 ?_))
        have na87 := New.alloc (wc81) (.cells conZ 24)
        have kc85 := kc83.trans na87
        have hb86 := heap_alloc_new (wc81) (.cells conZ 24)
        have hb88 := na87.blk hb84
        have lhb86 := kc83.size
        refine Exists.intro (New w') (And.intro (fun _ h => h) (And.intro kc85 ?_))
        have hne : (wc81).heap.size ≠ (w'.drew).heap.size := by
          intro e
          have q7 := hb86
          rw [e, hb88] at q7
          cases q7
        refine And.intro rfl ?_
        refine storeN_all (vs := conCs (mean l x.a)) hb86 rfl (conCs_one _) ?_
        intro ws89 hs90 ms91 ss92
        have ks93 := kc85.st ms91 lhb86
        have hb94 := ms91.keep hb88 (Ne.symm hne)
        refine Exists.intro (New w') (And.intro (fun _ h => h) (And.intro ks93 ?_))
        refine And.intro rfl ?_
        refine storeN_all (vs := entC (at_ l x.b)) hb94 rfl (entC_one _) ?_
        intro wt95 ht96 mt97 st98
        exact hK ((wc81).heap.size, (w'.drew).heap.size) _ _ ⟨rfl, rfl, rfl, rfl, rfl, rfl, trivial⟩ ⟨mt97.keep hs90 hne, ht96, ks93.st mt97 lhb79⟩
      · have na101 := New.alloc (((w'.drew).alloc (.cells entZ 67))) (.cells conZ 24)
        have kc99 := kc78.trans na101
        have hb100 := heap_alloc_new (((w'.drew).alloc (.cells entZ 67))) (.cells conZ 24)
        have hb102 := na101.blk hb79
        have lhb100 := kc78.size
        refine Exists.intro (New w') (And.intro (fun _ h => h) (And.intro kc99 ?_))
        refine call_ (hcall ((((w'.drew).alloc (.cells entZ 67))).alloc (.cells conZ 24)) kc99) ?_
        rintro e wc103 ⟨rfl, nc104⟩
        refine ⟨_, rfl, ?_⟩
        have kc105 := kc99.trans nc104
        have hb106 := nc104.blk hb100
        have hb107 := nc104.blk hb102
        refine Exists.intro (New w') (And.intro (fun _ h => h) (And.intro kc105 ?_))
        have hne : (((w'.drew).alloc (.cells entZ 67))).heap.size ≠ (w'.drew).heap.size := by
          intro e
          have q7 := hb106
          rw [e, hb107] at q7
          cases q7
        refine And.intro rfl ?_
        refine storeN_all (vs := conCs (mean l x.a)) hb106 rfl (conCs_one _) ?_
        intro ws108 hs109 ms110 ss111
        have ks112 := kc105.st ms110 lhb100
        have hb113 := ms110.keep hb107 (Ne.symm hne)
        refine Exists.intro (New w') (And.intro (fun _ h => h) (And.intro ks112 ?_))
        refine And.intro rfl ?_
        refine storeN_all (vs := entC (at_ l x.b)) hb113 rfl (entC_one _) ?_
        intro wt114 ht115 mt116 st117
        exact hK ((((w'.drew).alloc (.cells entZ 67))).heap.size, (w'.drew).heap.size) _ _ ⟨rfl, rfl, rfl, rfl, rfl, rfl, trivial⟩ ⟨mt116.keep hs109 hne, ht115, ks112.st mt116 lhb79⟩
  rintro ⟨g7, g8⟩ wx fr2 ⟨hb7, hb8, kx⟩
  dsimp only at hb7 hb8
  have kk := k2.trans kx
  have hb2x := kx.blk hb2
  have hb0x := kx.blk hb02
  rw [hkb] at hb8
  obtain ⟨na, nb⟩ := demand_name (fits_demand (tag_right hp (by rw [← h.len]; exact hlb) (by rw [htb]; decide)).2) htb
  obtain ⟨ka, aa, hka, hla, haa, _, hoa, hca⟩ := ref_at h (by decide) na
  obtain ⟨kc, ac, hkc, hlc, hac, _, hoc, hcc⟩ := ref_at h (by decide) nb
  cases haa
  cases hac
  have hC : (mean l x.a).cl = (at_ l (at_ l x.a).a).text := by rw [mean_cls r7]
  refine draw_ (w := wx) ok (.q 0 (.q 1 (.q 2 (.q 3 (.q 4 (.q 5 (.q 6 (.q 7 (.q 8 (.q 9 (.q 10 (.q 11 (.q 12 (.q 13 (.q 14 (.q 15 (.e 16 .done))))))))))))))))) [16] (New wx) (by kernel_rfl) (by kernel_rfl) (by kernel_rfl) (by kernel_rfl) (by kernel_rfl) (New.drew _) ?_
  refine Exists.intro (⟨(mean l x.a).cl.toArray⟩ : ByteArray) (And.intro (fun w'' hw => cellB (hw.blk hb7) rfl) ?_)
  refine Exists.intro (at_ l kb).a (And.intro (fun w'' hw => cellB (hw.blk hb8) rfl) ?_)
  refine And.intro (by omega) (And.intro (by omega) ?_)
  refine Exists.intro (⟨(at_ l ka).text.toArray⟩ : ByteArray) (And.intro (fun w'' hw => by rw [hka, Int.toNat_natCast]; exact (kk.trans hw).cell (hca 1 _ rfl)) ?_)
  refine Exists.intro (at_ l kb).b (And.intro (fun w'' hw => cellB (hw.blk hb8) rfl) ?_)
  refine And.intro (by omega) (And.intro (by omega) ?_)
  refine Exists.intro (⟨(at_ l kc).text.toArray⟩ : ByteArray) (And.intro (fun w'' hw => by rw [hkc, Int.toNat_natCast]; exact (kk.trans hw).cell (hcc 1 _ rfl)) ?_)
  rw [hmm hm, ← hC, hkb, hka, hkc]
  refine And.intro rfl ?_
  refine storeN_all (vs := conCs ⟨t, 0, (mean l x.a).cl, (at_ l ka).text, (at_ l kc).text⟩) ((New.drew _).blk hb0x) rfl (conCs_one _) ?_
  intro w9 hb9 m9 s9
  refine loadN_row (vs := conCs ⟨t, 0, (mean l x.a).cl, (at_ l ka).text, (at_ l kc).text⟩) (rowB hb9) rfl ?_
  exact ⟨rfl, (kk.trans (New.drew _)).st m9 (Nat.le_refl _)⟩
theorem mean_ok (A : Option Addr) (n c : Nat) (l : List Ent) (i : Int) (w : World) (h : Pl w A n l) (hp : Okp l) :
    Calls Try.prog 35 #[.slice A n c, .int .i64 i] w fun e w' => e = .returned (conV (mean l i)) ∧ New w w' :=
  meanG A n c l i w h hp fun _ j w' h' hj => meanG A n c l j w' h' hp fun hm => by rw [hj] at hm; omega
end Go.Proofs.Ytbmlfbcanjobfaa.Pool
