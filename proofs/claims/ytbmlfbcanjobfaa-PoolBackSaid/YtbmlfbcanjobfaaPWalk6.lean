/- The package pool and its reference, walked: what entries mean, told. -/
import Derived.Test.YtbmlfbcanjobfaaPWalk5
namespace Go.Proofs.Ytbmlfbcanjobfaa.Pool
open Go Go.Proofs.Ytbmlfbcanjobfaa Go.Proofs.Ytbmlfbcanjobfaa.Eng Go.Proofs
set_option maxRecDepth 10000

theorem rmean_ok (A : Option Addr) (n c : Nat) (l : List Ent) (i : Int) (w : World) (h : Pl w A n l) (hp : Okp l) :
    Calls Try.prog 40 #[.slice A n c, .int .i64 i] w fun e w' => e = .returned (conV (mean l i)) ∧ New w w' := by
  refine enter ok Try.func40 rfl rfl rfl ?_
  have hb0 := heap_alloc_new w (.cells conZ 24)
  have n0 := New.alloc w (.cells conZ 24)
  have hs0 : (w.alloc (.cells conZ 24)).heap.size = w.heap.size + 1 := by simp
  have hne0 : w.heap.size ≠ (w.alloc (.cells conZ 24)).heap.size := by rw [hs0]; omega
  have hle0 : w.heap.size ≤ (w.alloc (.cells conZ 24)).heap.size := by rw [hs0]; omega
  refine And.intro rfl ?_
  refine storeNew (w := w.alloc (.cells conZ 24)) (vs := entC e0) (arr := entZ) rfl (entC_one e0) ?_
  intro w1 hb1 n1 s1
  have k1 := n0.trans n1
  have hb01 := n1.blk hb0
  refine nil_ (thenF_ ?_)
  refine seq_cut (σ := Ent) (fun _ => [(0, .slice A n c), (4, .pointer (some ⟨w.heap.size, 0, none⟩)), (5, .pointer (some ⟨(w.alloc (.cells conZ 24)).heap.size, 0, none⟩))])
    (fun x w2 => w2.heap[w.heap.size]? = some (.cells conZ 24 (0, 0)) ∧ w2.heap[(w.alloc (.cells conZ 24)).heap.size]? = some (.cells (entC x).toArray 67 (0, 0)) ∧ New w w2 ∧ x.tag = tagAt l i ∧ (tagAt l i ≠ 0 → x = at_ l i)) ?_ ?_
  rotate_left
  · intro K hK
    refine call_ (rtag_ok A n c l i w1 (h.new k1)) ?_
    rintro e w' ⟨rfl, rfl⟩
    refine ⟨_, rfl, ?_⟩
    refine if_n (fun hne => ?_) (fun h0 => ?_)
    · obtain ⟨k, a, rfl, hk, rfl, htk, hok, hc⟩ := ref_at h hne rfl
      have htop := h.top
      refine And.intro (by omega) (And.intro (by omega) ?_)
      refine loadN_row (vs := entC (at_ l k)) (fun j u hu => by rw [Int.toNat_natCast]; exact k1.cell (hc j u hu)) rfl ?_
      refine And.intro rfl ?_
      refine storeN_all (vs := entC (at_ l k)) hb1 rfl (entC_one _) ?_
      intro w3 hb3 m3 s3
      exact hK (at_ l k) _ _ ⟨rfl, rfl, rfl, trivial⟩ ⟨m3.keep hb01 hne0, hb3, k1.st m3 hle0, htk, fun _ => rfl⟩
    · exact hK e0 _ _ ⟨rfl, rfl, rfl, trivial⟩ ⟨hb01, hb1, k1, h0.symm, fun hne => absurd h0 hne⟩
  rintro x w2 fr1 ⟨hb02, hb2, k2, htx, hx⟩
  have htop := h.top
  refine Exists.intro x.tag (And.intro (cellB hb2 rfl) ?_)
  have hmn := fun h => mean_num (l := l) (i := i) h
  have hmc := fun h => mean_cls (l := l) (i := i) h
  have hmm := fun h => mean_mem (l := l) (i := i) h
  have hm0 := fun h1 h2 h3 h4 h5 => mean_none (l := l) (i := i) h1 h2 h3 h4 h5
  have hdem : tagAt l i ≠ 0 → ∃ k : Nat, demand l k x = true ∧ x = at_ l k := fun hne => by
    obtain ⟨k, rfl, hk, htk⟩ := tag_in hne rfl
    have hxk := hx hne
    obtain ⟨_, hf⟩ := tag_right hp hk (by rw [htk]; exact hne)
    exact ⟨k, by rw [hxk]; exact fits_demand hf, hxk⟩
  have hxi : tagAt l i ≠ 0 → at_ l i = x := fun hne => (hx hne).symm
  generalize tagAt l i = t at htx hx hmn hmc hmm hm0 hdem hxi
  have num : t = 3 ∨ t = 5 → ∀ {K : World → Prop}, (∀ w9, w9.heap[w.heap.size]? = some (.cells (conCs (mean l i)).toArray 24 (0, 0)) → New w w9 → K w9) → storeN ⟨w.heap.size, 0, none⟩ (conCs ⟨x.tag, x.n, [], [], []⟩) 0 w2 K := fun ht K hK => by
    have e : (⟨x.tag, x.n, [], [], []⟩ : Con) = mean l i := by rw [hmn ht, htx, hxi (by omega)]
    rw [e]
    refine storeN_all (vs := conCs (mean l i)) hb02 rfl (conCs_one _) ?_
    intro w9 hb9 m9 s9
    exact hK w9 hb9 (k2.st m9 (Nat.le_refl _))
  have numx : t = 3 ∨ t = 5 → ∀ {K : Value → Prop}, True := fun _ _ => trivial
  clear numx
  rw [htx]
  refine if_p (fun h3 => ?_) (fun h3 => ?_)
  · refine if_p (fun _ => ?_) (fun h3' => absurd h3 h3')
    refine Exists.intro x.tag (And.intro (cellB hb2 rfl) ?_)
    refine Exists.intro x.n (And.intro (cellB hb2 rfl) ?_)
    refine And.intro rfl ?_
    refine num (.inl h3) ?_
    intro w9 hb9 k9
    refine loadN_row (vs := conCs (mean l i)) (rowB hb9) rfl ?_
    exact ⟨rfl, k9⟩
  refine if_p (fun h5 => ?_) (fun h5 => ?_)
  · refine Exists.intro x.tag (And.intro (cellB hb2 rfl) ?_)
    refine Exists.intro x.n (And.intro (cellB hb2 rfl) ?_)
    refine And.intro rfl ?_
    refine num (.inr h5) ?_
    intro w9 hb9 k9
    refine loadN_row (vs := conCs (mean l i)) (rowB hb9) rfl ?_
    exact ⟨rfl, k9⟩
  clear num
  refine if_p (fun h7 => ?_) (fun h7 => ?_)
  · replace h7 : t = 7 := h7
    obtain ⟨kx, hd, hxk⟩ := hdem (by omega)
    obtain ⟨k1', a1, hk1, hl1, ha1, _, ho1, hc1⟩ := ref_at h (by decide) (demand_class hd (by rw [htx, h7]))
    cases ha1
    have hC : mean l i = ⟨x.tag, 0, (at_ l k1').text, [], []⟩ := by rw [hmc h7, htx, hxi (by omega), hk1]
    refine draw_ (w := w2) ok (.q 0 (.q 1 (.q 2 (.q 3 (.q 4 (.q 5 (.q 6 (.q 7 (.q 8 (.e 9 .done)))))))))) [9] (New w2) (by kernel_rfl) (by kernel_rfl) (by kernel_rfl) (by kernel_rfl) (by kernel_rfl) (New.drew _) ?_
    refine Exists.intro x.tag (And.intro (fun w'' hw => cellB (hw.blk hb2) rfl) ?_)
    refine Exists.intro x.a (And.intro (fun w'' hw => cellB (hw.blk hb2) rfl) ?_)
    refine And.intro (by omega) (And.intro (by omega) ?_)
    refine Exists.intro (⟨(at_ l k1').text.toArray⟩ : ByteArray) (And.intro (fun w'' hw => by rw [hk1, Int.toNat_natCast]; exact (k2.trans hw).cell (hc1 1 _ rfl)) ?_)
    rw [hC]
    refine And.intro rfl ?_
    refine storeN_all (vs := conCs ⟨x.tag, 0, (at_ l k1').text, [], []⟩) ((New.drew _).blk hb02) rfl (conCs_one _) ?_
    intro w9 hb9 m9 s9
    refine loadN_row (vs := conCs ⟨x.tag, 0, (at_ l k1').text, [], []⟩) (rowB hb9) rfl ?_
    exact ⟨rfl, (k2.trans (New.drew _)).st m9 (Nat.le_refl _)⟩
  replace h3 : ¬ t = 3 := h3
  replace h5 : ¬ t = 5 := h5
  replace h7 : ¬ t = 7 := h7
  refine seq_cut (σ := Unit) (fun _ => [(0, .slice A n c), (4, .pointer (some ⟨w.heap.size, 0, none⟩)), (5, .pointer (some ⟨(w.alloc (.cells conZ 24)).heap.size, 0, none⟩)), (37, .bool (decide (t = 9 ∨ t = 10)))]) (fun _ w' => w' = w2) ?_ ?_
  rotate_left
  · intro K hK
    refine if_p (fun h9 => ?_) (fun h9 => ?_)
    · exact hK () _ _ ⟨rfl, rfl, rfl, (show Value.bool (decide (t = 9)) = .bool (decide (t = 9 ∨ t = 10)) by rw [decide_eq_true (show t = 9 from h9), decide_eq_true (show t = 9 ∨ t = 10 from .inl h9)]), trivial⟩ rfl
    · refine hK () _ _ ⟨rfl, rfl, rfl, (show Value.bool (decide (t = 10)) = .bool (decide (t = 9 ∨ t = 10)) from ?_), trivial⟩ rfl
      replace h9 : ¬ t = 9 := h9
      congr 1
      by_cases h10 : t = 10
      · rw [decide_eq_true h10, decide_eq_true (show t = 9 ∨ t = 10 from .inr h10)]
      · rw [decide_eq_false h10, decide_eq_false (show ¬ (t = 9 ∨ t = 10) from fun h => h.elim h9 h10)]
  rintro _ w' fr2 rfl
  refine if_p (fun hm => ?_) (fun hno => ?_)
  rotate_left
  · rw [hm0 h3 h5 h7 (fun h => hno (.inl h)) (fun h => hno (.inr h))]
    refine And.intro rfl ?_
    refine storeN_all (vs := conCs c0) hb02 rfl (conCs_one _) ?_
    intro w9 hb9 m9 s9
    refine loadN_row (vs := conCs c0) (rowB hb9) rfl ?_
    exact ⟨rfl, k2.st m9 (Nat.le_refl _)⟩
  obtain ⟨kx, hd, hxk⟩ := hdem (by omega)
  obtain ⟨r7, r12⟩ := demand_ref hd (by rw [htx]; exact hm)
  obtain ⟨kb, ab, hkb, hlb, hab, htb, hob, hcb⟩ := ref_at h (by decide) r12
  cases hab
  obtain ⟨kd, ad', hkd, hld, had, htd, hod, hcd⟩ := ref_at h (by decide) r7
  cases had
  obtain ⟨ke, ae, hke, hle, hae, _, hoe, hce⟩ := ref_at h (by decide) (demand_class (fits_demand (tag_right hp (by rw [← h.len]; exact hld) (by rw [htd]; decide)).2) htd)
  cases hae
  obtain ⟨na, nb⟩ := demand_name (fits_demand (tag_right hp (by rw [← h.len]; exact hlb) (by rw [htb]; decide)).2) htb
  obtain ⟨ka, aa, hka, hla, haa, _, hoa, hca⟩ := ref_at h (by decide) na
  obtain ⟨kc, ac, hkc, hlc, hac, _, hoc, hcc⟩ := ref_at h (by decide) nb
  cases haa
  cases hac
  have hC : mean l i = ⟨x.tag, 0, (at_ l ke).text, (at_ l ka).text, (at_ l kc).text⟩ := by rw [hmm hm, htx, hxi (by omega), hkd, hke, hkb, hka, hkc]
  refine Exists.intro x.b (And.intro (cellB hb2 rfl) ?_)
  refine And.intro (by omega) (And.intro (by omega) ?_)
  refine loadN_row (vs := entC (at_ l kb)) (fun j u hu => by rw [hkb, Int.toNat_natCast]; exact k2.cell (hcb j u hu)) rfl ?_
  refine And.intro rfl ?_
  refine storeNew (vs := entC (at_ l kb)) (arr := entZ) rfl (entC_one _) ?_
  intro w3 hb3 n3 s3
  have k3 := k2.trans n3
  have hb23 := n3.blk hb2
  have hb03 := n3.blk hb02
  refine draw_ (w := w3) ok (.q 0 (.q 1 (.q 2 (.q 3 (.q 4 (.q 5 (.q 6 (.q 7 (.q 8 (.q 9 (.q 10 (.q 11 (.q 12 (.q 13 (.q 14 (.q 15 (.q 16 (.q 17 (.q 18 (.q 19 (.q 20 (.q 21 (.q 22 (.q 23 (.q 24 (.e 25 .done)))))))))))))))))))))))))) [25] (New w3) (by kernel_rfl) (by kernel_rfl) (by kernel_rfl) (by kernel_rfl) (by kernel_rfl) (New.drew _) ?_
  refine Exists.intro x.tag (And.intro (fun w'' hw => cellB (hw.blk hb23) rfl) ?_)
  refine Exists.intro x.a (And.intro (fun w'' hw => cellB (hw.blk hb23) rfl) ?_)
  refine And.intro (by omega) (And.intro (by omega) ?_)
  refine Exists.intro (at_ l kd).a (And.intro (fun w'' hw => by rw [hkd, Int.toNat_natCast]; exact (k3.trans hw).cell (hcd 3 _ rfl)) ?_)
  refine And.intro (by omega) (And.intro (by omega) ?_)
  refine Exists.intro (⟨(at_ l ke).text.toArray⟩ : ByteArray) (And.intro (fun w'' hw => by rw [hke, Int.toNat_natCast]; exact (k3.trans hw).cell (hce 1 _ rfl)) ?_)
  refine Exists.intro (at_ l kb).a (And.intro (fun w'' hw => cellB (hw.blk hb3) rfl) ?_)
  refine And.intro (by omega) (And.intro (by omega) ?_)
  refine Exists.intro (⟨(at_ l ka).text.toArray⟩ : ByteArray) (And.intro (fun w'' hw => by rw [hka, Int.toNat_natCast]; exact (k3.trans hw).cell (hca 1 _ rfl)) ?_)
  refine Exists.intro (at_ l kb).b (And.intro (fun w'' hw => cellB (hw.blk hb3) rfl) ?_)
  refine And.intro (by omega) (And.intro (by omega) ?_)
  refine Exists.intro (⟨(at_ l kc).text.toArray⟩ : ByteArray) (And.intro (fun w'' hw => by rw [hkc, Int.toNat_natCast]; exact (k3.trans hw).cell (hcc 1 _ rfl)) ?_)
  rw [hC]
  refine And.intro rfl ?_
  refine storeN_all (vs := conCs ⟨x.tag, 0, (at_ l ke).text, (at_ l ka).text, (at_ l kc).text⟩) ((New.drew _).blk hb03) rfl (conCs_one _) ?_
  intro w9 hb9 m9 s9
  refine loadN_row (vs := conCs ⟨x.tag, 0, (at_ l ke).text, (at_ l ka).text, (at_ l kc).text⟩) (rowB hb9) rfl ?_
  exact ⟨rfl, (k3.trans (New.drew _)).st m9 (Nat.le_refl _)⟩
end Go.Proofs.Ytbmlfbcanjobfaa.Pool
