/- The package pool, walked: what fits, what is right. -/
import Derived.Test.YtbmlfbcanjobfaaPWalk1
namespace Go.Proofs.Ytbmlfbcanjobfaa.Pool
open Go Go.Proofs.Ytbmlfbcanjobfaa Go.Proofs.Ytbmlfbcanjobfaa.Eng Go.Proofs
set_option maxRecDepth 10000

def entZ : Array Value := #[.int .i64 0, .string ⟨#[]⟩, .int .i64 0, .int .i64 0, .int .i64 0]
theorem fits_ok (A : Option Addr) (n c : Nat) (l : List Ent) (i : Nat) (w : World) (h : Pl w A n l) (hi : i < n) :
    Calls Try.prog 56 #[.slice A n c, .int .i64 i] w fun e w' => e = .returned (.bool (fits l i)) ∧ New w w' := by
  refine enter ok Try.func56 rfl rfl rfl ?_
  obtain ⟨a, rfl, hok, hc⟩ := h.at_ hi
  have htop := h.top
  have hlen := h.len
  refine And.intro (by omega) (And.intro (by omega) ?_)
  refine loadN_row (vs := entC (at_ l i)) (by rw [Int.toNat_natCast]; exact hc) rfl ?_
  have hfit : ∀ B D, bare (at_ l i) = B → demand l i (at_ l i) = D → fits l i = (decide (at_ l i = B) && D) := by
    intro B D h1 h2
    unfold fits
    rw [← h1, h2]
  generalize at_ l i = x at hok hc hfit
  have yes : ∀ B D, bare x = B → demand l i x = D → x = B → fits l i = D := fun B D h1 h2 h3 => by rw [hfit B D h1 h2, decide_eq_true h3, Bool.true_and]
  have no : ∀ B D, bare x = B → demand l i x = D → ¬ x = B → fits l i = false := fun B D h1 h2 h3 => by rw [hfit B D h1 h2, decide_eq_false h3, Bool.false_and]
  refine And.intro rfl ?_
  refine storeNew (vs := entC x) (arr := entZ) rfl (entC_one x) ?_
  intro w1 hb1 n1 s1
  refine Exists.intro x.tag (And.intro (cellB hb1 rfl) ?_)
  refine And.intro rfl ?_
  refine storeNew (vs := entC ⟨x.tag, [], 0, 0, 0⟩) (arr := entZ) rfl (entC_one _) ?_
  intro w2 hb2 n2 s2
  have k2 := n1.trans n2
  have hb12 := n2.blk hb1
  refine Exists.intro x.tag (And.intro (cellB hb12 rfl) ?_)
  refine if_p (fun ht => ?_) (fun t1 => ?_)
  · have hB : bare x = ⟨x.tag, x.text, 0, 0, 0⟩ := by unfold bare; rw [if_pos ht]
    have hD : demand l i x = rightT x.text := by unfold demand; rw [if_pos ht]
    refine Exists.intro (⟨x.text.toArray⟩ : ByteArray) (And.intro (cellB hb12 rfl) ?_)
    refine And.intro ⟨_, cellB hb2 rfl⟩ (And.intro (fzB hb2 _) (force_ ?_))
    refine stK hb2 (show (1 : Nat) < 5 by decide) ?_
    intro w3 hb3 m3 s3
    have hb13 := m3.keep hb12 (by omega)
    have k3 := k2.st m3 (by omega)
    have hb3' : w3.heap[w1.heap.size]? = some (.cells (entC ⟨x.tag, x.text, 0, 0, 0⟩).toArray _ (0, 0)) := hb3
    refine loadN_row (vs := entC x) (rowB hb13) rfl ?_
    refine loadN_row (vs := entC ⟨x.tag, x.text, 0, 0, 0⟩) (rowB hb3') rfl ?_
    refine ent_eql rfl rfl rfl ?_
    refine if_p (fun he => ?_) (fun hne => ?_)
    · refine Exists.intro (⟨x.text.toArray⟩ : ByteArray) (And.intro (cellB hb13 rfl) ?_)
      refine call_ (right_ok x.text w3 hok.text) ?_
      rintro e w4 ⟨rfl, n4⟩
      refine ⟨_, rfl, ?_⟩
      rw [yes _ _ hB hD he]
      exact ⟨rfl, k3.trans n4⟩
    · rw [no _ _ hB hD hne]
      exact ⟨rfl, k3⟩
  replace t1 : ¬ x.tag = 1 := t1
  refine if_p (fun ht => ?_) (fun t3 => ?_)
  · have hB : bare x = ⟨x.tag, [], x.n, 0, 0⟩ := by unfold bare; rw [if_neg t1, if_pos (.inl ht)]
    have hD : demand l i x = small x.n := by unfold demand; rw [if_neg t1, if_pos ht]
    refine Exists.intro x.n (And.intro (cellB hb12 rfl) ?_)
    refine And.intro ⟨_, cellB hb2 rfl⟩ (And.intro (fzB hb2 _) (force_ ?_))
    refine stK hb2 (show (2 : Nat) < 5 by decide) ?_
    intro w3 hb3 m3 s3
    have hb13 := m3.keep hb12 (by omega)
    have k3 := k2.st m3 (by omega)
    have hb3' : w3.heap[w1.heap.size]? = some (.cells (entC ⟨x.tag, [], x.n, 0, 0⟩).toArray _ (0, 0)) := hb3
    refine loadN_row (vs := entC x) (rowB hb13) rfl ?_
    refine loadN_row (vs := entC ⟨x.tag, [], x.n, 0, 0⟩) (rowB hb3') rfl ?_
    refine ent_eql rfl rfl rfl ?_
    refine if_p (fun he => ?_) (fun hne => ?_)
    · refine Exists.intro x.n (And.intro (cellB hb13 rfl) ?_)
      refine call_ (small_ok x.n w3 hok.n) ?_
      rintro e w4 ⟨rfl, rfl⟩
      refine ⟨_, rfl, ?_⟩
      rw [yes _ _ hB hD he]
      exact ⟨rfl, k3⟩
    · rw [no _ _ hB hD hne]
      exact ⟨rfl, k3⟩
  replace t3 : ¬ x.tag = 3 := t3
  refine if_p (fun ht => ?_) (fun t5 => ?_)
  · have hB : bare x = ⟨x.tag, [], x.n, 0, 0⟩ := by unfold bare; rw [if_neg t1, if_pos (.inr ht)]
    have hD : demand l i x = (decide (i + 1 < l.length) && decide (at_ l (i + 1 : Nat) = e0)) := by unfold demand; rw [if_neg t1, if_neg t3, if_pos ht]
    refine Exists.intro x.n (And.intro (cellB hb12 rfl) ?_)
    refine And.intro ⟨_, cellB hb2 rfl⟩ (And.intro (fzB hb2 _) (force_ ?_))
    refine stK hb2 (show (2 : Nat) < 5 by decide) ?_
    intro w3 hb3 m3 s3
    have hb13 := m3.keep hb12 (by omega)
    have k3 := k2.st m3 (by omega)
    have hb3' : w3.heap[w1.heap.size]? = some (.cells (entC ⟨x.tag, [], x.n, 0, 0⟩).toArray _ (0, 0)) := hb3
    refine loadN_row (vs := entC x) (rowB hb13) rfl ?_
    refine loadN_row (vs := entC ⟨x.tag, [], x.n, 0, 0⟩) (rowB hb3') rfl ?_
    refine ent_eql rfl rfl rfl ?_
    refine if_p (fun he => ?_) (fun hne => ?_)
    · have e1 : IntKind.i64.wrap ((i : Int) + 1) = ((i + 1 : Nat) : Int) := by rw [wrap_i64 (by omega) (by omega)]; omega
      rw [yes _ _ hB hD he]
      refine if_p (fun hlt => ?_) (fun hge => ?_)
      · rw [e1] at hlt
        replace hlt : ((i + 1 : Nat) : Int) < n := hlt
        obtain ⟨a', ha', _, hc'⟩ := h.at_ (i := i + 1) (by omega)
        cases ha'
        refine And.intro (by rw [e1]; omega) (And.intro (by rw [e1]; omega) ?_)
        refine loadN_row (vs := entC (at_ l (i + 1 : Nat))) (fun j u hu => by rw [e1, Int.toNat_natCast]; exact k3.cell (hc' j u hu)) rfl ?_
        refine ent_eql (q := e0) rfl rfl rfl ?_
        rw [decide_eq_true (by omega), Bool.true_and]
        exact ⟨rfl, k3⟩
      · rw [e1] at hge
        replace hge : ¬ ((i + 1 : Nat) : Int) < n := hge
        rw [decide_eq_false (p := i + 1 < l.length) (by omega), Bool.false_and]
        exact ⟨rfl, k3⟩
    · rw [no _ _ hB hD hne]
      exact ⟨rfl, k3⟩
  replace t5 : ¬ x.tag = 5 := t5
  refine if_p (fun ht => ?_) (fun t7 => ?_)
  · have hB : bare x = ⟨x.tag, [], 0, x.a, 0⟩ := by unfold bare; rw [if_neg t1, if_neg (by omega), if_pos ht]
    have hD : demand l i x = decide (tagAt l x.a = 1) := by unfold demand; rw [if_neg t1, if_neg t3, if_neg t5, if_pos ht]
    refine Exists.intro x.a (And.intro (cellB hb12 rfl) ?_)
    refine And.intro ⟨_, cellB hb2 rfl⟩ (And.intro (fzB hb2 _) (force_ ?_))
    refine stK hb2 (show (3 : Nat) < 5 by decide) ?_
    intro w3 hb3 m3 s3
    have hb13 := m3.keep hb12 (by omega)
    have k3 := k2.st m3 (by omega)
    have hb3' : w3.heap[w1.heap.size]? = some (.cells (entC ⟨x.tag, [], 0, x.a, 0⟩).toArray _ (0, 0)) := hb3
    refine loadN_row (vs := entC x) (rowB hb13) rfl ?_
    refine loadN_row (vs := entC ⟨x.tag, [], 0, x.a, 0⟩) (rowB hb3') rfl ?_
    refine ent_eql rfl rfl rfl ?_
    refine if_p (fun he => ?_) (fun hne => ?_)
    · refine Exists.intro x.a (And.intro (cellB hb13 rfl) ?_)
      refine call_ (tag_ok (some a) n c l x.a w3 (h.new k3)) ?_
      rintro e w4 ⟨rfl, rfl⟩
      refine ⟨_, rfl, ?_⟩
      rw [yes _ _ hB hD he]
      exact ⟨rfl, k3⟩
    · rw [no _ _ hB hD hne]
      exact ⟨rfl, k3⟩
  replace t7 : ¬ x.tag = 7 := t7
  have hB : bare x = ⟨x.tag, [], 0, x.a, x.b⟩ := by unfold bare; rw [if_neg t1, if_neg (by omega), if_neg t7]
  refine draw_ (w := w2) ok (.q 0 (.q 1 (.q 2 (.q 3 (.q 4 (.e 5 (.q 6 (.e 7 .done)))))))) [7] (Mod (fun b => b = w1.heap.size) w2) (by kernel_rfl) (by kernel_rfl) (by kernel_rfl) (by kernel_rfl) (by kernel_rfl) (New.drew _).mod ?_
  refine Exists.intro x.a (And.intro (fun w'' hw => cellB (hw.keep hb12 (by omega)) rfl) ?_)
  refine Exists.intro x.b (And.intro (fun w'' hw => cellB (hw.keep hb12 (by omega)) rfl) ?_)
  have hb2d := (New.drew w2).blk hb2
  refine And.intro ⟨_, cellB hb2d rfl⟩ (And.intro (fzB hb2d _) (force_ ?_))
  refine stK hb2d (show (3 : Nat) < 5 by decide) ?_
  intro w3 hb3 m3 s3
  have m23 : Mod (fun b => b = w1.heap.size) w2 w3 := Mod.trans (New.drew w2).mod m3 (fun _ _ h => h)
  refine Exists.intro _ (And.intro (fun _ h => h) (And.intro m23 ?_))
  refine And.intro ⟨_, cellB hb3 rfl⟩ (And.intro (fzB hb3 _) (force_ ?_))
  refine stK hb3 (show (4 : Nat) < 5 by decide) ?_
  intro w4 hb4 m4 s4
  have m24 : Mod (fun b => b = w1.heap.size) w2 w4 := Mod.trans m23 m4 (fun _ _ h => h)
  have hb14 := m24.keep hb12 (by omega)
  have k4 := k2.st m24 (by omega)
  have hb4' : w4.heap[w1.heap.size]? = some (.cells (entC ⟨x.tag, [], 0, x.a, x.b⟩).toArray _ (0, 0)) := hb4
  refine Exists.intro x.tag (And.intro (cellB hb14 rfl) ?_)
  refine if_p (fun t9 => ?_) (fun t9 => ?_)
  · have hD : demand l i x = (decide (tagAt l x.a = 7) && decide (tagAt l x.b = 12)) := by unfold demand; rw [if_neg t1, if_neg t3, if_neg t5, if_neg t7, if_pos (.inl t9)]
    refine if_p (fun _ => ?_) (fun h9 => absurd t9 h9)
    refine loadN_row (vs := entC x) (rowB hb14) rfl ?_
    refine loadN_row (vs := entC ⟨x.tag, [], 0, x.a, x.b⟩) (rowB hb4') rfl ?_
    refine ent_eql rfl rfl rfl ?_
    refine if_p (fun he => ?_) (fun hne => ?_)
    · rw [yes _ _ hB hD he]
      refine Exists.intro x.a (And.intro (cellB hb14 rfl) ?_)
      refine call_ (tag_ok (some a) n c l x.a w4 (h.new k4)) ?_
      rintro e w5 ⟨rfl, rfl⟩
      refine ⟨_, rfl, ?_⟩
      refine if_p (fun ha => ?_) (fun ha => ?_)
      · refine Exists.intro x.b (And.intro (cellB hb14 rfl) ?_)
        refine call_ (tag_ok (some a) n c l x.b w5 (h.new k4)) ?_
        rintro e w6 ⟨rfl, rfl⟩
        refine ⟨_, rfl, ?_⟩
        rw [decide_eq_true ha, Bool.true_and]
        exact ⟨rfl, k4⟩
      · rw [decide_eq_false ha, Bool.false_and]
        exact ⟨rfl, k4⟩
    · rw [no _ _ hB hD hne]
      exact ⟨rfl, k4⟩
  refine if_p (fun t10 => ?_) (fun t10 => ?_)
  · have hD : demand l i x = (decide (tagAt l x.a = 7) && decide (tagAt l x.b = 12)) := by unfold demand; rw [if_neg t1, if_neg t3, if_neg t5, if_neg t7, if_pos (.inr t10)]
    refine loadN_row (vs := entC x) (rowB hb14) rfl ?_
    refine loadN_row (vs := entC ⟨x.tag, [], 0, x.a, x.b⟩) (rowB hb4') rfl ?_
    refine ent_eql rfl rfl rfl ?_
    refine if_p (fun he => ?_) (fun hne => ?_)
    · rw [yes _ _ hB hD he]
      refine Exists.intro x.a (And.intro (cellB hb14 rfl) ?_)
      refine call_ (tag_ok (some a) n c l x.a w4 (h.new k4)) ?_
      rintro e w5 ⟨rfl, rfl⟩
      refine ⟨_, rfl, ?_⟩
      refine if_p (fun ha => ?_) (fun ha => ?_)
      · refine Exists.intro x.b (And.intro (cellB hb14 rfl) ?_)
        refine call_ (tag_ok (some a) n c l x.b w5 (h.new k4)) ?_
        rintro e w6 ⟨rfl, rfl⟩
        refine ⟨_, rfl, ?_⟩
        rw [decide_eq_true ha, Bool.true_and]
        exact ⟨rfl, k4⟩
      · rw [decide_eq_false ha, Bool.false_and]
        exact ⟨rfl, k4⟩
    · rw [no _ _ hB hD hne]
      exact ⟨rfl, k4⟩
  refine if_p (fun t12 => ?_) (fun t12 => ?_)
  · have hD : demand l i x = (decide (tagAt l x.a = 1) && decide (tagAt l x.b = 1)) := by unfold demand; rw [if_neg t1, if_neg t3, if_neg t5, if_neg t7, if_neg (fun h => h.elim t9 t10), if_pos t12]
    refine loadN_row (vs := entC x) (rowB hb14) rfl ?_
    refine loadN_row (vs := entC ⟨x.tag, [], 0, x.a, x.b⟩) (rowB hb4') rfl ?_
    refine ent_eql rfl rfl rfl ?_
    refine if_p (fun he => ?_) (fun hne => ?_)
    · rw [yes _ _ hB hD he]
      refine Exists.intro x.a (And.intro (cellB hb14 rfl) ?_)
      refine call_ (tag_ok (some a) n c l x.a w4 (h.new k4)) ?_
      rintro e w5 ⟨rfl, rfl⟩
      refine ⟨_, rfl, ?_⟩
      refine if_p (fun ha => ?_) (fun ha => ?_)
      · refine Exists.intro x.b (And.intro (cellB hb14 rfl) ?_)
        refine call_ (tag_ok (some a) n c l x.b w5 (h.new k4)) ?_
        rintro e w6 ⟨rfl, rfl⟩
        refine ⟨_, rfl, ?_⟩
        rw [decide_eq_true ha, Bool.true_and]
        exact ⟨rfl, k4⟩
      · rw [decide_eq_false ha, Bool.false_and]
        exact ⟨rfl, k4⟩
    · rw [no _ _ hB hD hne]
      exact ⟨rfl, k4⟩
  have hD : demand l i x = false := by unfold demand; rw [if_neg t1, if_neg t3, if_neg t5, if_neg t7, if_neg (fun h => h.elim t9 t10), if_neg t12]
  rw [hfit _ _ hB hD, Bool.and_false]
  exact ⟨rfl, k4⟩
end Go.Proofs.Ytbmlfbcanjobfaa.Pool
