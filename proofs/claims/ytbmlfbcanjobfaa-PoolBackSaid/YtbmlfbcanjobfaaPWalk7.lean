/- The package pool and its reference, walked: constants and texts told. -/
import Derived.Test.YtbmlfbcanjobfaaPWalk6
namespace Go.Proofs.Ytbmlfbcanjobfaa.Pool
open Go Go.Proofs.Ytbmlfbcanjobfaa Go.Proofs.Ytbmlfbcanjobfaa.Eng Go.Proofs
set_option maxRecDepth 10000

theorem mean_c0 {l : List Ent} {i : Int} (h : (mean l i).tag = 0) : mean l i = c0 := by
  unfold mean at h ⊢
  split
  · rename_i h1
    rw [if_pos h1] at h
    simp only at h
    omega
  rename_i h1
  rw [if_neg h1] at h
  split
  · rename_i h2
    rw [if_pos h2] at h
    simp only at h
    omega
  rename_i h2
  rw [if_neg h2] at h
  split
  · rename_i h3
    rw [if_pos h3] at h
    simp only at h
    omega
  · rfl
theorem chk_cases (l : List Ent) : chk l = 70 ∧ okB l = false ∨ chk l = 0 ∧ okB l = true := by
  unfold chk
  cases h : okB l
  · exact .inl ⟨rfl, rfl⟩
  · exact .inr ⟨rfl, rfl⟩
theorem conC_bad {l : List Ent} (i : Int) (h : okB l = false) : conC l i = c0 ∧ conE l i = 70 := by
  unfold conC conE
  rw [h]
  exact ⟨rfl, rfl⟩
theorem conC_good {l : List Ent} (i : Int) (h : okB l = true) : conC l i = mean l i ∧ conE l i = if (mean l i).tag = 0 then 2 else 0 := by
  unfold conC conE
  rw [h]
  exact ⟨rfl, rfl⟩
theorem Const_ok (A : Option Addr) (n c : Nat) (l : List Ent) (i : Int) (w : World) (h : Pl w A n l) :
    Calls Try.prog 11 #[.slice A n c, .int .i64 i] w fun e w' => e = .returned (.tuple #[conV (conC l i), .int .i64 (conE l i)]) ∧ New w w' := by
  refine enter ok Try.func11 rfl rfl rfl ?_
  have hb0 := heap_alloc_new w (.cells conZ 24)
  have n0 := New.alloc w (.cells conZ 24)
  refine call_ (Check_ok A n c l (w.alloc (.cells conZ 24)) (h.new n0)) ?_
  rintro e w1 ⟨rfl, n1⟩
  refine ⟨_, rfl, ?_⟩
  have k1 := n0.trans n1
  have hb1 := n1.blk hb0
  rcases chk_cases l with ⟨hc, ho⟩ | ⟨hc, ho⟩
  · obtain ⟨e1, e2⟩ := conC_bad i ho
    rw [hc, e1, e2]
    refine And.intro rfl ?_
    refine storeN_all (vs := conCs c0) hb1 rfl (conCs_one c0) ?_
    intro w9 hb9 m9 s9
    refine loadN_row (vs := conCs c0) (rowB hb9) rfl ?_
    exact ⟨rfl, k1.st m9 (Nat.le_refl _)⟩
  obtain ⟨e1, e2⟩ := conC_good i ho
  rw [hc, e1, e2]
  refine call_ (mean_ok A n c l i w1 (h.new k1) ((okB_iff l).1 ho).1) ?_
  rintro e w2 ⟨rfl, n2⟩
  refine ⟨_, rfl, ?_⟩
  have k2 := k1.trans n2
  have hb2 := n2.blk hb1
  refine And.intro rfl ?_
  refine storeNew (vs := conCs (mean l i)) (arr := conZ) rfl (conCs_one _) ?_
  intro w3 hb3 n3 s3
  have k3 := k2.trans n3
  have hb03 := n3.blk hb2
  refine Exists.intro (mean l i).tag (And.intro (cellB hb3 rfl) ?_)
  refine if_p (fun h0 => ?_) (fun h0 => ?_)
  · rw [if_pos (show (mean l i).tag = 0 from h0)]
    refine loadN_row (vs := conCs (mean l i)) (rowB hb3) rfl ?_
    refine And.intro rfl ?_
    refine storeN_all (vs := conCs (mean l i)) hb03 rfl (conCs_one _) ?_
    intro w9 hb9 m9 s9
    refine loadN_row (vs := conCs (mean l i)) (rowB hb9) rfl ?_
    exact ⟨rfl, k3.st m9 (Nat.le_refl _)⟩
  · rw [if_neg (show ¬ (mean l i).tag = 0 from h0)]
    refine loadN_row (vs := conCs (mean l i)) (rowB hb3) rfl ?_
    refine And.intro rfl ?_
    refine storeN_all (vs := conCs (mean l i)) hb03 rfl (conCs_one _) ?_
    intro w9 hb9 m9 s9
    refine loadN_row (vs := conCs (mean l i)) (rowB hb9) rfl ?_
    exact ⟨rfl, k3.st m9 (Nat.le_refl _)⟩
theorem RConst_ok (A : Option Addr) (n c : Nat) (l : List Ent) (i : Int) (w : World) (h : Pl w A n l) :
    Calls Try.prog 16 #[.slice A n c, .int .i64 i] w fun e w' => e = .returned (.tuple #[conV (conC l i), .int .i64 (conE l i)]) ∧ New w w' := by
  refine enter ok Try.func16 rfl rfl rfl ?_
  have hb0 := heap_alloc_new w (.cells conZ 24)
  have n0 := New.alloc w (.cells conZ 24)
  refine call_ (RCheck_ok A n c l (w.alloc (.cells conZ 24)) (h.new n0)) ?_
  rintro e w1 ⟨rfl, n1⟩
  refine ⟨_, rfl, ?_⟩
  have k1 := n0.trans n1
  have hb1 := n1.blk hb0
  rcases chk_cases l with ⟨hc, ho⟩ | ⟨hc, ho⟩
  · obtain ⟨e1, e2⟩ := conC_bad i ho
    rw [hc, e1, e2]
    refine And.intro rfl ?_
    refine storeN_all (vs := conCs c0) hb1 rfl (conCs_one c0) ?_
    intro w9 hb9 m9 s9
    refine loadN_row (vs := conCs c0) (rowB hb9) rfl ?_
    exact ⟨rfl, k1.st m9 (Nat.le_refl _)⟩
  obtain ⟨e1, e2⟩ := conC_good i ho
  rw [hc, e1, e2]
  refine call_ (rmean_ok A n c l i w1 (h.new k1) ((okB_iff l).1 ho).1) ?_
  rintro e w2 ⟨rfl, n2⟩
  refine ⟨_, rfl, ?_⟩
  have k2 := k1.trans n2
  have hb2 := n2.blk hb1
  refine And.intro rfl ?_
  refine storeNew (vs := conCs (mean l i)) (arr := conZ) rfl (conCs_one _) ?_
  intro w3 hb3 n3 s3
  have k3 := k2.trans n3
  have hb03 := n3.blk hb2
  refine Exists.intro (mean l i).tag (And.intro (cellB hb3 rfl) ?_)
  refine if_p (fun h0 => ?_) (fun h0 => ?_)
  · rw [if_pos (show (mean l i).tag = 0 from h0)]
    rw [mean_c0 h0]
    refine And.intro rfl ?_
    refine storeN_all (vs := conCs c0) hb03 rfl (conCs_one _) ?_
    intro w9 hb9 m9 s9
    refine loadN_row (vs := conCs c0) (rowB hb9) rfl ?_
    exact ⟨rfl, k3.st m9 (Nat.le_refl _)⟩
  · rw [if_neg (show ¬ (mean l i).tag = 0 from h0)]
    refine loadN_row (vs := conCs (mean l i)) (rowB hb3) rfl ?_
    refine And.intro rfl ?_
    refine storeN_all (vs := conCs (mean l i)) hb03 rfl (conCs_one _) ?_
    intro w9 hb9 m9 s9
    refine loadN_row (vs := conCs (mean l i)) (rowB hb9) rfl ?_
    exact ⟨rfl, k3.st m9 (Nat.le_refl _)⟩
theorem Text_ok (A : Option Addr) (n c : Nat) (l : List Ent) (i : Int) (w : World) (h : Pl w A n l) :
    Calls Try.prog 14 #[.slice A n c, .int .i64 i] w fun e w' => e = .returned (.tuple #[strV (textS l i), .int .i64 (textE l i)]) ∧ New w w' := by
  refine enter ok Try.func14 rfl rfl rfl ?_
  refine call_ (Check_ok A n c l w h) ?_
  rintro e w1 ⟨rfl, n1⟩
  refine ⟨_, rfl, ?_⟩
  unfold textS textE
  rcases chk_cases l with ⟨hc, ho⟩ | ⟨hc, ho⟩
  · rw [hc, ho]
    exact ⟨rfl, n1⟩
  rw [hc, ho, if_pos rfl, if_pos rfl]
  refine call_ (tag_ok A n c l i w1 (h.new n1)) ?_
  rintro e w2 ⟨rfl, rfl⟩
  refine ⟨_, rfl, ?_⟩
  refine if_n (fun hne => ?_) (fun he => ?_)
  · rw [if_neg (show ¬ tagAt l i = 1 from hne), if_neg (show ¬ tagAt l i = 1 from hne)]
    exact ⟨rfl, n1⟩
  · replace he : tagAt l i = 1 := he
    rw [if_pos he, if_pos he]
    obtain ⟨k, a, rfl, hk, rfl, _, _, hcc⟩ := ref_at h (by decide) he
    have htop := h.top
    refine And.intro (by omega) (And.intro (by omega) ?_)
    refine Exists.intro (⟨(at_ l k).text.toArray⟩ : ByteArray) (And.intro (by rw [Int.toNat_natCast]; exact n1.cell (hcc 1 _ rfl)) ?_)
    exact ⟨rfl, n1⟩
theorem RText_ok (A : Option Addr) (n c : Nat) (l : List Ent) (i : Int) (w : World) (h : Pl w A n l) :
    Calls Try.prog 15 #[.slice A n c, .int .i64 i] w fun e w' => e = .returned (.tuple #[strV (textS l i), .int .i64 (textE l i)]) ∧ New w w' := by
  refine enter ok Try.func15 rfl rfl rfl ?_
  refine call_ (RCheck_ok A n c l w h) ?_
  rintro e w1 ⟨rfl, n1⟩
  refine ⟨_, rfl, ?_⟩
  unfold textS textE
  rcases chk_cases l with ⟨hc, ho⟩ | ⟨hc, ho⟩
  · rw [hc, ho]
    exact ⟨rfl, n1⟩
  rw [hc, ho, if_pos rfl, if_pos rfl]
  refine call_ (rtag_ok A n c l i w1 (h.new n1)) ?_
  rintro e w2 ⟨rfl, rfl⟩
  refine ⟨_, rfl, ?_⟩
  refine if_n (fun hne => ?_) (fun he => ?_)
  · rw [if_neg (show ¬ tagAt l i = 1 from hne), if_neg (show ¬ tagAt l i = 1 from hne)]
    exact ⟨rfl, n1⟩
  · replace he : tagAt l i = 1 := he
    rw [if_pos he, if_pos he]
    obtain ⟨k, a, rfl, hk, rfl, _, _, hcc⟩ := ref_at h (by decide) he
    have htop := h.top
    refine And.intro (by omega) (And.intro (by omega) ?_)
    refine Exists.intro (⟨(at_ l k).text.toArray⟩ : ByteArray) (And.intro (by rw [Int.toNat_natCast]; exact n1.cell (hcc 1 _ rfl)) ?_)
    exact ⟨rfl, n1⟩
end Go.Proofs.Ytbmlfbcanjobfaa.Pool
